/-
  What functions of the program compute, each told as a plain function that may give nothing, with the proof that the code does so. No condition beyond those that each theorem names.
-/
import Derived.Test.YteibkihbdgphnaaGreatWalkMA0
import Derived.Test.YteibkihbdgphnaaGreatLibD
import Derived.Test.YteibkihbdgphnaaGreatLibE
set_option linter.unusedSimpArgs false
set_option linter.unusedVariables false
set_option linter.unusedSectionVars false
set_option maxHeartbeats 2000000
set_option maxRecDepth 100000
namespace Go.Proofs.YteibkihbdgphnaaGreat
open Go Go.RowKit
open Go.IntKind (i64)
def q1n (t4_0 : Bool) : Option Bool :=
 (if t4_0 = true then some true
 else some false)
def q7x (kind_0 : Int) : Option Bool :=
 (if (kind_0 == 1) = true then q1n (kind_0 == 1)
 else (if (kind_0 == 2) = true then q1n (kind_0 == 2)
 else (if (kind_0 == 3) = true then q1n (kind_0 == 3)
 else (if (kind_0 == 4) = true then q1n (kind_0 == 4)
 else (if (kind_0 == 5) = true then q1n (kind_0 == 5)
 else (if (kind_0 == 10) = true then q1n (kind_0 == 10)
 else (if (kind_0 == 11) = true then q1n (kind_0 == 11)
 else (if (kind_0 == 12) = true then q1n (kind_0 == 12)
 else (if (kind_0 == 13) = true then q1n (kind_0 == 13)
 else q1n (kind_0 == 15))))))))))
instance j4a (kind_0 : Int) : Ct pp 12 (q7x kind_0) [.v (.int .i64 kind_0)] fun r => (.v (.bool r)) := ctK Tryz.func12 rfl (by rw [q7x]) (by
 intro r h F; refine sM ?_; refine jg fun _ Q2 => ?_; refine sM ?_; refine w9 fun _ Q4 => ?_; refine q3p (fun (t4_0 : Bool) => q1n t4_0 = some r) [] (fun t4_0 => ([(4, .v (.bool t4_0))], [])) 0 ?_ ?_
 · intro _ Q7; exact au
 ·
  rintro t4_0 h
  try dsimp only at h
  rw [q1n] at h; exact au)
def q4m (nv_0 : Int) (cap_0 : List (List GItem)) : Option (List GItem) :=
 (if (decide ((cap_0.length : Int) ≤ nv_0)) = true then some ([] : List GItem)
 else q9 (idx cap_0 nv_0) (fun xv_0 =>
 q9 (qd3 xv_0) (fun v_0 =>
 some v_0)))
theorem qu8 (nv_0 : Int) (cap_0 : List (List GItem))  (r : List GItem) (h : q4m nv_0 cap_0 = some r) : DetS pp 85 [.v (.int .i64 nv_0), .el 1 [[.sl 1 (enc cap_0)]] 0 0] [] 0 (.osl 0 3 (0) (r.length)) [(0, .arr 3 (enc r))] 1 := by
 refine dtI Tryz.func85 rfl ?_; rw [q4m] at h; have F := trivial; refine sM ?_; refine sg fun _ Q2 => ?_; refine sM ?_; refine sB h (fun _ h => ?_) fun _ h => ?_
 · exact au
 · refine y7 (q8 Q2 (sg fun _ Q5 => ?_)); obtain ⟨xv_0, F, h⟩ := bI F h; obtain ⟨v_0, ev_0, h⟩ := z8 h; simp only [go_sem, F]; refine ai ?_; refine q1o [] (z06 xv_0 v_0 ev_0) ?_; simp only [go_sem]; exact au
def q2a (ok_2 : Bool) (b_2 : Int) (a_2 : List GItem) : Option ((List GItem) × Bool) :=
 (if (!ok_2) = true then some (([] : List GItem), false)
 else q9 (q4l (⟨a_2, b_2⟩ : GOps_maker)) (fun v_11 =>
 some (v_11.1, true)))
def qr4 (v_0 : List GItem) (rec_2 : Bool × Int × Int × (List GItem) → Option ((List GItem) × Bool)) : Bool × Int × Int × (List GItem) → Option ((List GItem) × Bool) :=
 fun (ok_4, t48_3, b_4, a_4) =>
 (if (decide (t48_3 < (v_0.length : Int))) = true then q9 (idx v_0 t48_3) (fun xv_6 =>
 (if ok_4 = true then q9 (q10 (⟨a_4, b_4⟩ : GOps_maker) xv_6.Rec 1) (fun v_18 =>
 rec_2 (v_18.1, i64.wrap (t48_3 + 1), v_18.2.many, v_18.2.out))
 else rec_2 (false, i64.wrap (t48_3 + 1), b_4, a_4)))
 else q2a ok_4 b_4 a_4)
def q7k (xv_0 : GNode) (ports_0 : List (List GItem)) : Option ((List GItem) × Bool) :=
 q9 (q4m 0 ports_0) (fun v_0 =>
 q9 (q4m 1 ports_0) (fun v_1 =>
 (if (xv_0.Kind == 5) = true then q9 (q21 (⟨([] : List GItem), 0⟩ : GOps_maker) xv_0 v_0) (fun v_12 =>
 (if v_12.1 = true then q9 (q21 v_12.2 xv_0 v_1) (fun v_13 =>
 q2a v_13.1 v_13.2.many v_13.2.out)
 else q2a false v_12.2.many v_12.2.out))
 else q9 (q7x xv_0.Kind) (fun v_14 =>
 (if v_14 = true then q9 (q21 (⟨([] : List GItem), 0⟩ : GOps_maker) xv_0 v_0) (fun v_15 =>
 q2a v_15.1 v_15.2.many v_15.2.out)
 else (if (xv_0.Kind == 8) = true then d9 (qr4 v_0) rounds (true, 0, 0, [])
 else (if (xv_0.Kind == 9) = true then q9 (q4k (⟨([] : List GItem), 0⟩ : GOps_maker) v_0 v_1) (fun v_19 =>
 q2a v_19.1 v_19.2.many v_19.2.out)
 else (if (((xv_0.Kind == 7) || (xv_0.Kind == 6)) || (xv_0.Kind == 14)) = true then q9 (q3e (⟨([] : List GItem), 0⟩ : GOps_maker) xv_0.Kind v_0 v_1) (fun v_20 =>
 q2a v_20.1 v_20.2.many v_20.2.out)
 else q2a true 0 ([])))))))))
theorem z7c (xv_0 : GNode) (ports_0 : List (List GItem))  (r : (List GItem) × Bool) (h : q7k xv_0 ports_0 = some r) : DetS pp 57 [.agg (Row.row xv_0), .sl 1 (enc ports_0)] [] 0 (.tup [.osl 0 3 (0) (r.1.length), .v (.bool r.2)]) [(0, .arr 3 (enc r.1))] 1 := by
 refine dtI Tryz.func57 rfl ?_; rw [q7k] at h; have F := trivial; refine sM ?_; refine sM ?_; refine sM ?_; refine sg fun _ Q4 => ?_; obtain ⟨v_0, ev_0, h⟩ := z8 h; simp only [go_sem]; refine q9l [2] ([(6, .clo 85 [.el 1 [[.sl 1 (enc ports_0)]] 0 0]), (7, .ptr 1 0)], [(0, .box (Row.row xv_0)), (1, .box [.v (.slice none 0 0), .v (.int .i64 0)])]) 2 [some 0, some 2] [.v (.int .i64 0), .el 1 [[.sl 1 (enc ports_0)]] 0 0] ?_; refine q1o [] (qu8 0 ports_0 v_0 ev_0) ?_; obtain ⟨v_1, ev_1, h⟩ := z8 h; simp only [go_sem]; refine q1o [] (qu8 1 ports_0 v_1 ev_1) ?_; simp only [go_sem]; refine q8 Q4 (sM ?_); refine q3p (fun ((ok_2, b_2, a_2) : Bool × Int × (List GItem)) => q2a ok_2 b_2 a_2 = some r) [] (fun x => ([(7, .ptr 0 0), (10, .v (.bool x.1))], [(0, .box [.osl 1 3 (0) (x.2.2.length), .v (.int .i64 x.2.1)]), (1, .arr 3 (enc x.2.2))])) 2 ?_ ?_
 ·
  intro _ Q10; refine w9 fun _ Q11 => ?_; refine sM ?_; refine sB h (fun _ h => ?_) fun _ h => ?_
  ·
   obtain ⟨v_12, ev_12, h⟩ := z8 h; simp only [go_sem]; refine q9l [2, 7, 10] ([(9, .osl 2 3 (0) (v_1.length))], [(0, .box (Row.row xv_0)), (1, .box [.osl 3 3 (0) (List.length ([] : List GItem)), .v (.int .i64 0)]), (2, .arr 3 (enc v_1)), (3, .arr 3 (enc ([] : List GItem)))]) 4 [some 0, some 1, some 3, none] [.ptr 1 0, .agg (Row.row xv_0), .sl 3 (enc v_0)] ?_; refine q1o [1, 3] (q60 (⟨([] : List GItem), 0⟩ : GOps_maker) xv_0 v_0 v_12 ev_12) ?_; simp only [go_sem]; rcases hb_13 : v_12.1 with _ | _
   · replace h := q45 h hb_13; simp only [go_sem, hb_13]; exact au
   · replace h := q44 h hb_13; obtain ⟨v_13, ev_13, h⟩ := z8 h; simp only [go_sem, hb_13]; refine q9l [7, 10, 28] ([], [(0, .box (Row.row xv_0)), (1, .box [.osl 2 3 (0) (v_12.2.out.length), .v (.int .i64 v_12.2.many)]), (2, .arr 3 (enc v_12.2.out))]) 3 [some 0, some 1, some 4] [.ptr 1 0, .agg (Row.row xv_0), .sl 3 (enc v_1)] ?_; refine q1o [1, 2] (q60 v_12.2 xv_0 v_1 v_13 ev_13) ?_; simp only [go_sem]; exact au
  ·
   refine sg fun _ Q13 => ?_; simp only [go_sem]; refine q5u h fun v_14 h => ?_; simp only [go_sem]; refine q8 Q13 (sB h (fun _ h => ?_) fun _ h => ?_)
   · obtain ⟨v_15, ev_15, h⟩ := z8 h; simp only [go_sem]; refine q9l [7, 10] ([], [(0, .box (Row.row xv_0)), (1, .box [.osl 3 3 (0) (List.length ([] : List GItem)), .v (.int .i64 0)]), (2, .arr 3 (enc v_1)), (3, .arr 3 (enc ([] : List GItem)))]) 4 [some 0, some 1, some 3, none] [.ptr 1 0, .agg (Row.row xv_0), .sl 3 (enc v_0)] ?_; refine q1o [1, 3] (q60 (⟨([] : List GItem), 0⟩ : GOps_maker) xv_0 v_0 v_15 ev_15) ?_; simp only [go_sem]; exact au
   ·
    refine sM ?_; refine sB h (fun _ h => ?_) fun _ h => ?_
    ·
     refine sM ?_; refine w9 fun _ Q16 => ?_; refine q0n h [47] (fun x => ([(7, .ptr 0 0), (10, .v (.bool x.1)), (46, .osl 1 3 (0) (v_0.length)), (48, .v (.int .i64 x.2.1))], [(0, .box [.osl 2 3 (0) (x.2.2.2.length), .v (.int .i64 x.2.2.1)]), (1, .arr 3 (enc v_0)), (2, .arr 3 (enc x.2.2.2))])) 3 ?_; rintro m_2 ⟨ok_4, t48_3, b_4, a_4⟩ h _ Q17; rw [qr4] at h; refine sM ?_; refine sg fun _ Q19 => ?_; refine sB h (fun _ h => ?_) fun _ h => ?_
     ·
      refine y7 (q8 Q19 (sg fun _ Q20 => ?_)); refine w9 fun _ Q21 => ?_; refine sg fun _ Q22 => ?_; obtain ⟨xv_6, F, h⟩ := bI F h; simp only [go_sem, F]; refine ai ?_; refine q8 Q22 ?_; simp only [go_sem]; rcases hb_20 : ok_4 with _ | _
      · replace h := q45 h hb_20; simp only [go_sem, hb_20]; exact au
      · replace h := q44 h hb_20; obtain ⟨v_18, ev_18, h⟩ := z8 h; simp only [go_sem, hb_20]; refine q1o [0, 2] (q2h (⟨a_4, b_4⟩ : GOps_maker) xv_6.Rec 1 v_18 ev_18) ?_; simp only [go_sem]; exact au
     · exact au
    ·
     refine sM ?_; refine sB h (fun _ h => ?_) fun _ h => ?_
     · obtain ⟨v_19, ev_19, h⟩ := z8 h; simp only [go_sem]; refine q9l [7, 10] ([], [(0, .box (Row.row xv_0)), (1, .box [.osl 2 3 (0) (List.length ([] : List GItem)), .v (.int .i64 0)]), (2, .arr 3 (enc ([] : List GItem)))]) 3 [some 0, some 1, none] [.ptr 1 0, .sl 3 (enc v_0), .sl 3 (enc v_1)] ?_; refine q1o [1, 2] (qr2 (⟨([] : List GItem), 0⟩ : GOps_maker) v_0 v_1 v_19 ev_19) ?_; simp only [go_sem]; exact au
     ·
      refine sM ?_; refine sB h (fun _ h => ?_) fun _ h => ?_
      · obtain ⟨v_20, ev_20, h⟩ := z8 h; simp only [go_sem]; refine q9l [7, 10] ([], [(0, .box (Row.row xv_0)), (1, .box [.osl 2 3 (0) (List.length ([] : List GItem)), .v (.int .i64 0)]), (2, .arr 3 (enc ([] : List GItem)))]) 3 [some 0, some 1, none] [.ptr 1 0, .v (.int .i64 xv_0.Kind), .sl 3 (enc v_0), .sl 3 (enc v_1)] ?_; refine q1o [1, 2] (qn2 (⟨([] : List GItem), 0⟩ : GOps_maker) xv_0.Kind v_0 v_1 v_20 ev_20) ?_; simp only [go_sem]; exact au
      · exact au
 ·
  rintro ⟨ok_2, b_2, a_2⟩ h
  try dsimp only at h
  rw [q2a] at h; refine sg fun _ Q6 => ?_; refine sM ?_; refine sB h (fun _ h => ?_) fun _ h => ?_
  · exact au
  · refine y7 (q8 Q6 (sg fun _ Q9 => ?_)); obtain ⟨v_11, ev_11, h⟩ := z8 h; simp only [go_sem]; refine q1o [0, 1] (qr3 (⟨a_2, b_2⟩ : GOps_maker) v_11 ev_11) ?_; simp only [go_sem]; exact au
def qd8 (xv_0 : Int) (y_0 : Int) : Option (Int × Int) :=
 q9 (q34 xv_0 y_0) (fun v_0 =>
 some (v_0.1, v_0.2))
instance j0x (xv_0 : Int) (y_0 : Int) : Ct pp 116 (qd8 xv_0 y_0) [.v (.int .u64 xv_0), .v (.int .u64 y_0)] fun r => (.tup [.v (.int .u64 r.1), .v (.int .u64 r.2)]) := ctI Tryz.func116 rfl (by rw [qd8]; exact au1)
def q8z  (rec_3 : Int × (List GRec) → Option (List GRec)) : Int × (List GRec) → Option (List GRec) :=
 fun (nv_1, a_1) =>
 (if (decide (nv_1 < (a_1.length : Int))) = true then p9 (0 ≤ nv_1 ∧ nv_1 ≤ (a_1.length : Int) ∧ (a_1.length : Int) ≤ (a_1.length : Int)) (
 p9 (0 ≤ 0 ∧ 0 ≤ nv_1 ∧ nv_1 ≤ (a_1.length : Int)) (
 p9 (nv_1.toNat + (a_1.length - nv_1.toNat) ≤ a_1.length) (
 p9 (0 + nv_1.toNat ≤ a_1.length) (
 rec_3 (i64.wrap (nv_1 + ((min (List.length (List.take (nv_1.toNat) a_1)) ((a_1.length - nv_1.toNat)) : Nat) : Int)), (List.take (a_1.length) (List.take (nv_1.toNat) a_1 ++ (List.take ((a_1.length - nv_1.toNat)) (List.take (nv_1.toNat) a_1)) ++ List.drop (nv_1.toNat + List.length (List.take ((a_1.length - nv_1.toNat)) (List.take (nv_1.toNat) a_1))) a_1)))))))
 else some a_1)
def q6n (xv_0 : List GRec) (v_0 : Int × Int) : Option (List GRec) :=
 p9 (0 ≤ (i64.wrap v_0.2) ∧ (i64.wrap v_0.2) * 16 ≤ 140737488355328) (
 p9 (0 + (Int.toNat (i64.wrap v_0.2)) ≤ List.length (List.replicate (Int.toNat (i64.wrap v_0.2)) (⟨0, 0⟩ : GRec))) (
 d9 (q8z) rounds (((min (xv_0.length) ((Int.toNat (i64.wrap v_0.2))) : Nat) : Int), (List.take (Int.toNat (i64.wrap v_0.2)) ((List.take ((Int.toNat (i64.wrap v_0.2))) xv_0) ++ List.drop (List.length (List.take ((Int.toNat (i64.wrap v_0.2))) xv_0)) (List.replicate (Int.toNat (i64.wrap v_0.2)) (⟨0, 0⟩ : GRec)))))))
def q6o (xv_0 : List GRec) (count_0 : Int) : Option (List GRec) :=
 q9 (qd8 (IntKind.u64.wrap (xv_0.length : Int)) (IntKind.u64.wrap count_0)) (fun v_0 =>
 (if ((decide (0 < v_0.1)) || (decide (9223372036854775807 < v_0.2))) = true then none
 else q6n xv_0 v_0))
def q6c (xv_0 : List GRec) (count_0 : Int) : Option (List GRec) :=
 (if (decide (count_0 < 0)) = true then none
 else q6o xv_0 count_0)
theorem qz5 (xv_0 : List GRec) (count_0 : Int)  (r : List GRec) (h : q6c xv_0 count_0 = some r) : DetS pp 92 [.sl 2 (enc xv_0), .v (.int .i64 count_0)] [] 0 (.osl 0 2 (0) (r.length)) [(0, .arr 2 (enc r))] 1 := by
 refine dtI Tryz.func92 rfl ?_; rw [q6c] at h; have F := trivial; refine sM ?_; refine q3p (fun (_ : Unit) => q6o xv_0 count_0 = some r) [0, 1] (fun _ => ([], [])) 0 ?_ ?_
 ·
  intro _ Q14; refine sM ?_; refine sB h (fun _ h => ?_) fun _ h => ?_
  · exact absurd h (by simp)
  · exact au
 ·
  rintro ⟨⟩ h
  try dsimp only at h
  rw [q6o] at h; refine sg fun _ Q2 => ?_; simp only [go_sem]; refine q5u h fun v_0 h => ?_; simp only [go_sem]; refine q8 Q2 (q3p (fun (_ : Unit) => q6n xv_0 v_0 = some r) [0, 6] (fun _ => ([], [])) 0 ?_ ?_)
  ·
   intro _ Q12; refine sM ?_; refine sB h (fun _ h => ?_) fun _ h => ?_
   · exact absurd h (by simp)
   · exact au
  ·
   rintro ⟨⟩ h
   try dsimp only at h
   rw [q6n] at h; refine sg fun _ Q3 => ?_; obtain ⟨F, h⟩ := bG F h; have rf_0 : List.replicate (Int.toNat (i64.wrap v_0.2)) [.v (.int .i64 0), .v (.int .i64 0)] = enc (List.replicate (Int.toNat (i64.wrap v_0.2)) (⟨0, 0⟩ : GRec)) := by (simp [enc, z3w, z1b, q9m, q67]; exact .inr rfl)
   simp only [go_sem, F]; simp only [rf_0]; refine q8 Q3 (sg fun _ Q4 => ?_); obtain ⟨g_1, h⟩ := q09 h; have F := And.intro F g_1; simp only [Nat.zero_add] at g_1; have rf_1 : List.take (0) (enc (List.replicate (Int.toNat (i64.wrap v_0.2)) (⟨0, 0⟩ : GRec))) ++ enc (List.take ((Int.toNat (i64.wrap v_0.2))) xv_0) ++ List.drop (0 + List.length (List.take ((Int.toNat (i64.wrap v_0.2))) xv_0)) (enc (List.replicate (Int.toNat (i64.wrap v_0.2)) (⟨0, 0⟩ : GRec))) = enc ((List.take ((Int.toNat (i64.wrap v_0.2))) xv_0) ++ List.drop (List.length (List.take ((Int.toNat (i64.wrap v_0.2))) xv_0)) (List.replicate (Int.toNat (i64.wrap v_0.2)) (⟨0, 0⟩ : GRec))) := by simp [enc, List.map_take, List.map_drop]
   simp only [Nat.zero_add, List.take_zero, List.nil_append] at rf_1; simp only [go_sem, g_1, rf_1]; refine q8 Q4 (jg fun _ Q5 => ?_); refine w9 fun _ Q6 => ?_; refine q0n h [] (fun x => ([(7, .osl 0 2 (0) (x.2.length)), (8, .v (.int .i64 x.1))], [(0, .arr 2 (enc x.2))])) 1 ?_; rintro m_3 ⟨nv_1, a_1⟩ h _ Q7; rw [q8z] at h; refine sg fun _ Q8 => ?_; refine sM ?_; refine sB h (fun _ h => ?_) fun _ h => ?_
   ·
    refine y7 (q8 Q8 (w9 fun _ Q10 => ?_)); refine q07 ?_; refine q3g 8 0 0 [0, 0, 0, 6, 0, 0, 48, 126, 255, 511] [0] [0] [] [7] [] mixed (by kernel_rfl) (of_decide_eq_true (by kernel_rfl)) (by kernel_rfl) (by kernel_rfl) (by rfl) ?_; obtain ⟨F, h⟩ := bG F h; obtain ⟨F, h⟩ := bG F h; obtain ⟨F, h⟩ := bG F h; obtain ⟨g_13, h⟩ := q09 h; have F := And.intro F g_13; simp only [Nat.zero_add] at g_13; have rf_4 : List.take (nv_1.toNat) (enc a_1) ++ enc (List.take ((a_1.length - nv_1.toNat)) (List.take (nv_1.toNat) a_1)) ++ List.drop (nv_1.toNat + List.length (List.take ((a_1.length - nv_1.toNat)) (List.take (nv_1.toNat) a_1))) (enc a_1) = enc (List.take (nv_1.toNat) a_1 ++ (List.take ((a_1.length - nv_1.toNat)) (List.take (nv_1.toNat) a_1)) ++ List.drop (nv_1.toNat + List.length (List.take ((a_1.length - nv_1.toNat)) (List.take (nv_1.toNat) a_1))) a_1) := by simp [enc, List.map_take, List.map_drop]
    simp only [go_sem, g_13, rf_4, F]; exact au
   · exact au
def qk9 (v_0 : List GItem) (rec_2 : Int × (List GRec) → Option ((List GRec) × Bool)) : Int × (List GRec) → Option ((List GRec) × Bool) :=
 fun (t28_1, a_1) =>
 (if (decide (t28_1 < (v_0.length : Int))) = true then q9 (idx v_0 t28_1) (fun xv_5 =>
 q9 (q6c ([xv_5.Rec] : List GRec) xv_5.N) (fun v_3 =>
 p9 ((a_1.length + v_3.length) * 16 ≤ 140737488355328) (
 rec_2 (i64.wrap (t28_1 + 1), (a_1 ++ v_3)))))
 else some (a_1, true))
def qk8 (v_0 : List GItem) : Option ((List GRec) × Bool) :=
 d9 (qk9 v_0) rounds (0, [])
def qu6 (v_0 : List GItem) (rec_3 : Int × Int → Option ((List GRec) × Bool)) : Int × Int → Option ((List GRec) × Bool) :=
 fun (nv_3, t15_3) =>
 (if (decide (t15_3 < (v_0.length : Int))) = true then q9 (idx v_0 t15_3) (fun xv_8 =>
 (if (decide (65536 < (i64.wrap (nv_3 + xv_8.N)))) = true then some (([] : List GRec), false)
 else rec_3 (i64.wrap (nv_3 + xv_8.N), i64.wrap (t15_3 + 1))))
 else qk8 v_0)
def qp1 (b_0 : List GItem) : Option ((List GRec) × Bool) :=
 q9 (qd3 b_0) (fun v_0 =>
 d9 (qu6 v_0) rounds (0, 0))
theorem z8n (b_0 : List GItem)  (r : (List GRec) × Bool) (h : qp1 b_0 = some r) : DetS pp 58 [.sl 3 (enc b_0)] [] 0 (.tup [.osl 0 2 (0) (r.1.length), .v (.bool r.2)]) [(0, .arr 2 (enc r.1))] 1 := by
 refine dtI Tryz.func58 rfl ?_; rw [qp1] at h; have F := trivial; refine sM ?_; refine sg fun _ Q2 => ?_; obtain ⟨v_0, ev_0, h⟩ := z8 h; simp only [go_sem]; refine q1o [] (z06 b_0 v_0 ev_0) ?_; simp only [go_sem]; refine q8 Q2 (sM ?_); refine q3p (fun (_ : Unit) => qk8 v_0 = some r) [4] (fun _ => ([], [(0, .arr 3 (enc v_0))])) 1 ?_ ?_
 · intro _ Q15; refine sM ?_; refine w9 fun _ Q17 => ?_; refine q0n h [4, 13, 14] (fun x => ([(5, .v (.int .i64 x.1)), (15, .v (.int .i64 x.2))], [(0, .arr 3 (enc v_0))])) 1 ?_; rintro m_3 ⟨nv_3, t15_3⟩ h _ Q18; rw [qu6] at h; exact au
 ·
  rintro ⟨⟩ h
  try dsimp only at h
  rw [qk8] at h; refine sM ?_; refine jg fun _ Q5 => ?_; refine sM ?_; refine w9 fun _ Q7 => ?_; refine q0n h [27] (fun x => ([(8, .osl 0 2 (0) (x.2.length)), (26, .osl 1 3 (0) (v_0.length)), (28, .v (.int .i64 x.1))], [(0, .arr 2 (enc x.2)), (1, .arr 3 (enc v_0))])) 2 ?_; rintro m_2 ⟨t28_1, a_1⟩ h _ Q8; rw [qk9] at h; refine sM ?_; refine sg fun _ Q10 => ?_; refine sB h (fun _ h => ?_) fun _ h => ?_
  ·
   refine y7 (q8 Q10 (sg fun _ Q11 => ?_)); refine w9 fun _ Q12 => ?_; refine sg fun _ Q13 => ?_; obtain ⟨xv_5, F, h⟩ := bI F h; simp only [go_sem, F]; refine ai ?_; refine q8 Q13 ?_; have rf_3 : [[.v (.int .i64 xv_5.Rec.K), .v (.int .i64 xv_5.Rec.V)]] = enc ([xv_5.Rec] : List GRec) := by rfl
   obtain ⟨v_3, ev_3, h⟩ := z8 h; simp only [go_sem]; simp only [rf_3]; refine q9l [8, 26, 27, 28, 32] ([], [(0, .arr 2 (enc a_1)), (1, .arr 3 (enc v_0)), (2, .box (Row.row xv_5))]) 3 [some 0, some 1, some 2] [.sl 2 (enc ([xv_5.Rec] : List GRec)), .v (.int .i64 xv_5.N)] ?_; refine q1o [] (qz5 ([xv_5.Rec] : List GRec) xv_5.N v_3 ev_3) ?_; obtain ⟨F, h⟩ := bG F h; have rf_4 : enc a_1 ++ enc v_3 = enc (a_1 ++ v_3) := by exact (q4x a_1 v_3).symm
   simp only [go_sem, rf_4, F]; refine And.intro (by (intros; simp_all; done)) ?_; exact au
  · exact au
def qh9 (t_0 : GTime) : Option (GTime × Bool) :=
 q9 (q6m t_0) (fun v_0 =>
 (if ((!v_0) || (t_0.D == 1)) = true then some ((⟨0, (⟨0, 0, 0, 0⟩ : Arr4 Int)⟩ : GTime), false)
 else p9 (0 ≤ i64.wrap (t_0.D - 1) ∧ i64.wrap (t_0.D - 1) < 4) (
 q9 (some (if Int.toNat (i64.wrap (t_0.D - 1)) = 0 then 0 else t_0.C.a0)) (fun w_0 =>
 q9 (some (if Int.toNat (i64.wrap (t_0.D - 1)) = 1 then 0 else t_0.C.a1)) (fun w_1 =>
 q9 (some (if Int.toNat (i64.wrap (t_0.D - 1)) = 2 then 0 else t_0.C.a2)) (fun w_2 =>
 q9 (some (if Int.toNat (i64.wrap (t_0.D - 1)) = 3 then 0 else t_0.C.a3)) (fun w_3 =>
 some ((⟨i64.wrap (t_0.D - 1), (⟨w_0, w_1, w_2, w_3⟩ : Arr4 Int)⟩ : GTime), true))))))))
instance j6d (t_0 : GTime) : Ct pp 31 (qh9 t_0) [.agg (Row.row t_0)] fun r => (.tup [.agg (Row.row r.1), .v (.bool r.2)]) := ctK Tryz.func31 rfl (by rw [qh9]) (by
 intro r h F; refine sM ?_; refine sg fun _ Q2 => ?_; refine sg fun _ Q3 => ?_; simp only [go_sem]; refine q5u h fun v_0 h => ?_; simp only [go_sem]; refine q8 Q3 (sB h (fun _ h => ?_) fun _ h => ?_)
 · exact au
 · refine y7 (q8 Q2 (sM ?_)); refine sg fun _ Q6 => ?_; obtain ⟨F, h⟩ := bG F h; obtain ⟨w_0, ew_0, h⟩ := z8 h; obtain ⟨w_1, ew_1, h⟩ := z8 h; obtain ⟨w_2, ew_2, h⟩ := z8 h; obtain ⟨w_3, ew_3, h⟩ := z8 h; have sf_0 := z6i (f := (fun y => AV.v (.int .i64 y))) [.v (.int .i64 (i64.wrap (t_0.D - 1)))] [] [t_0.C.a0, t_0.C.a1, t_0.C.a2, t_0.C.a3] [w_0, w_1, w_2, w_3] (Int.toNat (i64.wrap (t_0.D - 1))) 0 (by simp only [List.length_cons, List.length_nil]; omega) (by simp only [List.mapIdx_cons, List.mapIdx_nil, Nat.zero_add, Nat.reduceAdd, Option.some.inj ew_0, Option.some.inj ew_1, Option.some.inj ew_2, Option.some.inj ew_3]); simp only [List.cons_append, List.nil_append, List.append_nil, List.map_cons, List.map_nil, List.length_cons, List.length_nil, Nat.zero_add, Nat.reduceAdd, q5w, Nat.add_assoc, List.drop_succ_cons, q67] at sf_0; simp only [go_sem, sf_0, Nat.mul_one, F]; refine ai ?_; exact au)
def qi0 (t_0 : GTime) : Option (GTime × Bool) :=
 q9 (q6m t_0) (fun v_0 =>
 (if ((!v_0) || (t_0.D == 4)) = true then some ((⟨0, (⟨0, 0, 0, 0⟩ : Arr4 Int)⟩ : GTime), false)
 else some ((⟨i64.wrap (t_0.D + 1), t_0.C⟩ : GTime), true)))
instance j6e (t_0 : GTime) : Ct pp 53 (qi0 t_0) [.agg (Row.row t_0)] fun r => (.tup [.agg (Row.row r.1), .v (.bool r.2)]) := ctI Tryz.func53 rfl (by rw [qi0]; exact au1)
def qn0 (t_0 : GTime) : Option (GTime × Bool) :=
 q9 (q6m t_0) (fun v_0 =>
 (if v_0 = true then p9 (0 ≤ i64.wrap (t_0.D - 1) ∧ i64.wrap (t_0.D - 1) < 4) (
 q9 (idx ([t_0.C.a0, t_0.C.a1, t_0.C.a2, t_0.C.a3] : List Int) (i64.wrap (t_0.D - 1))) (fun xv_0 =>
 q9 (q8g (i64.wrap (t_0.D - 1))) (fun v_1 =>
 (if (xv_0 == v_1) = true then some ((⟨0, (⟨0, 0, 0, 0⟩ : Arr4 Int)⟩ : GTime), false)
 else p9 (0 ≤ i64.wrap (t_0.D - 1) ∧ i64.wrap (t_0.D - 1) < 4) (
 q9 (idx ([t_0.C.a0, t_0.C.a1, t_0.C.a2, t_0.C.a3] : List Int) (i64.wrap (t_0.D - 1))) (fun xv_1 =>
 p9 (0 ≤ i64.wrap (t_0.D - 1) ∧ i64.wrap (t_0.D - 1) < 4) (
 q9 (some (if Int.toNat (i64.wrap (t_0.D - 1)) = 0 then i64.wrap (xv_1 + 1) else t_0.C.a0)) (fun w_0 =>
 q9 (some (if Int.toNat (i64.wrap (t_0.D - 1)) = 1 then i64.wrap (xv_1 + 1) else t_0.C.a1)) (fun w_1 =>
 q9 (some (if Int.toNat (i64.wrap (t_0.D - 1)) = 2 then i64.wrap (xv_1 + 1) else t_0.C.a2)) (fun w_2 =>
 q9 (some (if Int.toNat (i64.wrap (t_0.D - 1)) = 3 then i64.wrap (xv_1 + 1) else t_0.C.a3)) (fun w_3 =>
 some ((⟨t_0.D, (⟨w_0, w_1, w_2, w_3⟩ : Arr4 Int)⟩ : GTime), true))))))))))))
 else some ((⟨0, (⟨0, 0, 0, 0⟩ : Arr4 Int)⟩ : GTime), false)))
instance j7f (t_0 : GTime) : Ct pp 54 (qn0 t_0) [.agg (Row.row t_0)] fun r => (.tup [.agg (Row.row r.1), .v (.bool r.2)]) := ctK Tryz.func54 rfl (by rw [qn0]) (by
 intro r h F; refine sM ?_; refine sg fun _ Q2 => ?_; refine sg fun _ Q3 => ?_; refine q07 ?_; refine j8g ?_; obtain ⟨v_0, ev_0, h⟩ := z8 h; simp only [go_sem]; refine callq (fun _ => (za3 t_0 v_0 ev_0)) (by rfl) (by rfl) ?_; simp only [go_sem]; rcases hb_0 : v_0 with _ | _
 · replace h := q45 h hb_0; simp only [go_sem, hb_0]; exact au
 ·
  replace h := q44 h hb_0; obtain ⟨F, h⟩ := bG F h; obtain ⟨xv_0, ex0, h⟩ := z8 h; obtain ⟨f0a, f0b, f0c, fxv_0d⟩ := qr1 (f := (fun y => AV.v (.int .i64 y))) [.v (.int .i64 t_0.D)] [] ex0; simp only [List.cons_append, List.nil_append, List.append_nil, List.map_cons, List.map_nil, List.length_cons, List.length_nil, Nat.zero_add, Nat.reduceAdd, q67] at f0b f0c fxv_0d; obtain ⟨v_1, ev_1, h⟩ := z8 h; simp only [go_sem, hb_0, f0a, f0b, f0c, fxv_0d, F]; refine ai ?_; simp only [List.getD_eq_getElem?_getD, Nat.mul_one, fxv_0d, Option.map_some, Option.getD_some, true_and]; refine callq (fun _ => (z5o (i64.wrap (t_0.D - 1)) v_1 ev_1)) (by rfl) (by rfl) ?_; simp only [go_sem]; refine q8 Q3 (sB h (fun _ h => ?_) fun _ h => ?_)
  · exact au
  · refine y7 (q8 Q2 (sg fun _ Q6 => ?_)); obtain ⟨F, h⟩ := bG F h; obtain ⟨xv_1, ex1, h⟩ := z8 h; obtain ⟨f1a, f1b, f1c, fxv_1d⟩ := qr1 (f := (fun y => AV.v (.int .i64 y))) [.v (.int .i64 t_0.D)] [] ex1; simp only [List.cons_append, List.nil_append, List.append_nil, List.map_cons, List.map_nil, List.length_cons, List.length_nil, Nat.zero_add, Nat.reduceAdd, q67] at f1b f1c fxv_1d; obtain ⟨F, h⟩ := bG F h; obtain ⟨w_0, ew_0, h⟩ := z8 h; obtain ⟨w_1, ew_1, h⟩ := z8 h; obtain ⟨w_2, ew_2, h⟩ := z8 h; obtain ⟨w_3, ew_3, h⟩ := z8 h; have sf_0 := z6i (f := (fun y => AV.v (.int .i64 y))) [.v (.int .i64 t_0.D)] [] [t_0.C.a0, t_0.C.a1, t_0.C.a2, t_0.C.a3] [w_0, w_1, w_2, w_3] (Int.toNat (i64.wrap (t_0.D - 1))) (i64.wrap (xv_1 + 1)) (by simp only [List.length_cons, List.length_nil]; omega) (by simp only [List.mapIdx_cons, List.mapIdx_nil, Nat.zero_add, Nat.reduceAdd, Option.some.inj ew_0, Option.some.inj ew_1, Option.some.inj ew_2, Option.some.inj ew_3]); simp only [List.cons_append, List.nil_append, List.append_nil, List.map_cons, List.map_nil, List.length_cons, List.length_nil, Nat.zero_add, Nat.reduceAdd, q5w, Nat.add_assoc, List.drop_succ_cons, q67] at sf_0; simp only [go_sem, f1a, f1b, f1c, fxv_1d, sf_0, Nat.mul_one, F]; simp only [List.getD_eq_getElem?_getD, Nat.mul_one, fxv_1d, Option.map_some, Option.getD_some, true_and]; simp only [go_sem, f1a, f1b, f1c, fxv_1d, sf_0, Nat.mul_one, List.getD_eq_getElem?_getD, Nat.mul_one, fxv_1d, Option.map_some, Option.getD_some, true_and, F]; refine ai ?_; exact au)
def q2n (rv_0 : GMean_runner) (nv_0 : Int) (port_0 : Int) (t_0 : GTime) (b_0 : List GItem) : Option GMean_runner :=
 (if ((b_0.length : Int) == 0) = true then some rv_0
 else (ql0 (q2k rv_0.ins.1 ((⟨nv_0, t_0⟩ : GMean_point))) (p9 (Key.okb ((⟨nv_0, t_0⟩ : GMean_point)) = true) (
 p9 (0 ≤ port_0 ∧ port_0 < 2) (
 q9 (idx ([([] : List GItem), ([] : List GItem)] : List (List GItem)) port_0) (fun xv_0 =>
 q9 (q42 xv_0 b_0) (fun v_0 =>
 p9 (0 ≤ port_0 ∧ port_0 < 2) (
 q9 (some (if port_0.toNat = 0 then v_0 else ([] : List GItem))) (fun w_0 =>
 q9 (some (if port_0.toNat = 1 then v_0 else ([] : List GItem))) (fun w_1 =>
 some (⟨rv_0.g, (Prod.mk (rv_0.ins.1 ++ [(⟨nv_0, t_0⟩ : GMean_point)]) (List.set (rv_0.ins.2 ++ [(⟨([] : List GItem), ([] : List GItem)⟩ : Arr2 (List GItem))]) (rv_0.ins.1.length) (⟨w_0, w_1⟩ : Arr2 (List GItem)))), rv_0.past, rv_0.bags, rv_0.work, rv_0.most, rv_0.outs, rv_0.e⟩ : GMean_runner)))))))))
 (fun i_0 => q9 (atK rv_0.ins.2 i_0) (fun v_1 =>
 p9 (0 ≤ port_0 ∧ port_0 < 2) (
 q9 (idx ([v_1.a0, v_1.a1] : List (List GItem)) port_0) (fun xv_1 =>
 q9 (q42 xv_1 b_0) (fun v_2 =>
 p9 (0 ≤ port_0 ∧ port_0 < 2) (
 q9 (some (if port_0.toNat = 0 then v_2 else v_1.a0)) (fun w_2 =>
 q9 (some (if port_0.toNat = 1 then v_2 else v_1.a1)) (fun w_3 =>
 some (⟨rv_0.g, (Prod.mk rv_0.ins.1 (List.set rv_0.ins.2 i_0 (⟨w_2, w_3⟩ : Arr2 (List GItem)))), rv_0.past, rv_0.bags, rv_0.work, rv_0.most, rv_0.outs, rv_0.e⟩ : GMean_runner)))))))))))
theorem q8s (rv_0 : GMean_runner) (nv_0 : Int) (port_0 : Int) (t_0 : GTime) (b_0 : List GItem)  (r : GMean_runner) (h : q2n rv_0 nv_0 port_0 t_0 b_0 = some r) : DetS pp 16 [.ptr 0 0, .v (.int .i64 nv_0), .v (.int .i64 port_0), .agg (Row.row t_0), .sl 3 (enc b_0)] [(0, .box [.sl 1 (enc rv_0.g.Parent), .sl 1 (enc rv_0.g.Bound), .sl 4 (enc rv_0.g.Nodes), .sl 4 (enc rv_0.g.Edges), .mp 1, .mp 2, .mp 3, .v (.int .i64 rv_0.work), .v (.int .i64 rv_0.most), .osl 4 4 (0) (rv_0.outs.length), .v (.int .i64 rv_0.e)]), (1, .con (x8 pp 78 0 (u6 rv_0.ins.1) (enc rv_0.ins.2) none) []), (2, .con (x8 pp 3 1 (u6 rv_0.past.1) (enc rv_0.past.2) none) []), (3, .con (x8 pp 78 2 (u6 rv_0.bags.1) (enc rv_0.bags.2) none) []), (4, .arr 4 (enc rv_0.outs))] 5 (.tup []) [(0, .box [.sl 1 (enc r.g.Parent), .sl 1 (enc r.g.Bound), .sl 4 (enc r.g.Nodes), .sl 4 (enc r.g.Edges), .mp 1, .mp 2, .mp 3, .v (.int .i64 r.work), .v (.int .i64 r.most), .osl 5 4 (0) (r.outs.length), .v (.int .i64 r.e)]), (1, .con (x8 pp 78 0 (u6 r.ins.1) (enc r.ins.2) none) []), (2, .con (x8 pp 3 1 (u6 r.past.1) (enc r.past.2) none) []), (3, .con (x8 pp 78 2 (u6 r.bags.1) (enc r.bags.2) none) []), (5, .arr 4 (enc r.outs))] 6 := by
  unfold DetS; refine Spec.of_wp Tryz.func16 rfl (by kernel_rfl) (by kernel_rfl) ?_; rw [q2n] at h; refine sgW fun _ Q1 => ?_; refine wv ?_; simp only [go_sem]; refine y5 Q1 ?_; refine sgW fun _ Q2 => ?_; refine sgW fun _ Q3 => ?_; refine wv ?_; simp only [go_sem]; refine y5 Q3 ?_; refine q3m (b := ((b_0.length : Int) == 0)) (by (simp only [go_sem]; done)) (fun hb_0 => ?_) (fun hb_0 => ?_)
  ·
    replace h := q44 h hb_0; simp only [bool_to_prop] at hb_0; refine wv ?_; refine q02 (ql3 Q2 ?_); simp only [go_sem]; obtain rfl := Option.some.inj h; refine q1s [some 4] ?_; simp only [go_sem, Le] <;> (repeat' apply And.intro) <;> (try with_reducible refine q03 ?_) <;> first | omega | (simp [go_sem]; done)
  ·
    replace h := q45 h hb_0; simp only [bool_to_prop] at hb_0; refine wv ?_; refine y7 (y5 Q2 ?_); refine sgW fun _ Q4 => ?_; refine wv ?_; simp only [go_sem]; refine y5 Q4 ?_; refine sgW fun _ Q5 => ?_; refine sgW fun _ Q6 => ?_; refine q91 h (fun hm_0 h => ?_) (fun i_0 hm_0 h => ?_)
    ·
      obtain ⟨g_0, h⟩ := q09 h; have hn_0 : ¬ (Value.agg ⟨[.int .i64 nv_0, .int .i64 t_0.D, .int .i64 t_0.C.a0, .int .i64 t_0.C.a1, .int .i64 t_0.C.a2, .int .i64 t_0.C.a3]⟩) ∈ u6 rv_0.ins.1 := qg9 hm_0; have hk_0 : ∃ l, keyOf pp 78 (Value.agg ⟨[.int .i64 nv_0, .int .i64 t_0.D, .int .i64 t_0.C.a0, .int .i64 t_0.C.a1, .int .i64 t_0.C.a2, .int .i64 t_0.C.a3]⟩) = some l := z0x ((⟨nv_0, t_0⟩ : GMean_point)) g_0; refine q7e ?_; refine wv ?_; refine q07 ?_; refine j8g ?_; simp only [go_sem, q4a, hn_0, hk_0]; refine q27 ?_; refine y5 Q6 ?_; refine zq0 (by (simp only [go_sem]; done)) ?_; refine q7e ?_; refine wv ?_; refine q07 ?_; refine q3g 7 0 0 [0, 1, 3, 7, 0, 0, 32, 127] [7] [0, 1, 2, 3, 4] [] [6] [] mixed (by kernel_rfl) (of_decide_eq_true (by kernel_rfl)) (by kernel_rfl) (by kernel_rfl) (by rfl) ?_; simp only [go_sem]; refine qv5 [.sl 3 (enc ([] : List GItem)), .sl 3 (enc ([] : List GItem))] ?_ rfl trivial trivial trivial rfl rfl z7w q4a rfl hk_0 hn_0; have rn_0k : u6 rv_0.ins.1 ++ [(Value.agg ⟨[.int .i64 nv_0, .int .i64 t_0.D, .int .i64 t_0.C.a0, .int .i64 t_0.C.a1, .int .i64 t_0.C.a2, .int .i64 t_0.C.a3]⟩)] = u6 (rv_0.ins.1 ++ [(⟨nv_0, t_0⟩ : GMean_point)]) := qz2 rv_0.ins.1 (⟨nv_0, t_0⟩ : GMean_point); have rn_0v : enc rv_0.ins.2 ++ [[.sl 3 (enc ([] : List GItem)), .sl 3 (enc ([] : List GItem))]] = enc (rv_0.ins.2 ++ [(⟨([] : List GItem), ([] : List GItem)⟩ : Arr2 (List GItem))]) := (q4x rv_0.ins.2 [(⟨([] : List GItem), ([] : List GItem)⟩ : Arr2 (List GItem))]).symm; have rn_0l : (u6 (rv_0.ins.1 ++ [(⟨nv_0, t_0⟩ : GMean_point)]))[rv_0.ins.1.length]? = some (Value.agg ⟨[.int .i64 nv_0, .int .i64 t_0.D, .int .i64 t_0.C.a0, .int .i64 t_0.C.a1, .int .i64 t_0.C.a2, .int .i64 t_0.C.a3]⟩) := z08 rv_0.ins.1 (⟨nv_0, t_0⟩ : GMean_point); rw [rn_0k, rn_0v, qz1]; simp only [go_sem]; refine q79 (fun _ _ _ _ H => H.nilBox (id := 7) [.sl 3 (enc ([] : List GItem)), .sl 3 (enc ([] : List GItem))] rfl ⟨.inr ⟨rfl, _, rfl⟩, .inr ⟨rfl, _, rfl⟩, trivial⟩) ?_; refine q27 ?_
      refine y5 Q5 ?_; refine q7e ?_; refine wv ?_; refine q07 ?_; refine j8g ?_; obtain ⟨g_1, h⟩ := q09 h; obtain ⟨xv_0, ex0, h⟩ := z8 h; obtain ⟨f0a, f0b, f0c, fxv_0d⟩ := qr1 (f := (fun y => AV.sl 3 (enc y))) [] [] ex0; simp only [List.cons_append, List.nil_append, List.append_nil, List.map_cons, List.map_nil, List.length_cons, List.length_nil, Nat.zero_add, Nat.reduceAdd, q67] at f0b f0c fxv_0d; obtain ⟨v_0, ev_0, h⟩ := z8 h; simp only [go_sem, q4a, rn_0l, q4a, rn_0l, g_1, f0a, f0b, f0c, fxv_0d]; refine And.intro (by first | omega | (intros; simp_all; done)) ?_; refine And.intro (by first | omega | (intros; simp_all; done)) ?_; simp only [List.getD_eq_getElem?_getD, Nat.mul_one, fxv_0d, Option.map_some, Option.getD_some, true_and]; simp only [go_sem, q4a, rn_0l, q4a, rn_0l, g_1, f0a, f0b, f0c, fxv_0d, List.getD_eq_getElem?_getD, Nat.mul_one, fxv_0d, Option.map_some, Option.getD_some, true_and]; refine callq (fun _ => (z2d xv_0 b_0 v_0 ev_0)) (by rfl) (by rfl) ?_; obtain ⟨g_2, h⟩ := q09 h; obtain ⟨w_0, ew_0, h⟩ := z8 h; obtain ⟨w_1, ew_1, h⟩ := z8 h; have sf_0 := z6i (f := (fun y => AV.sl 3 (enc y))) [] [] [([] : List GItem), ([] : List GItem)] [w_0, w_1] (port_0.toNat) v_0 (by simp only [List.length_cons, List.length_nil]; omega) (by simp only [List.mapIdx_cons, List.mapIdx_nil, Nat.zero_add, Nat.reduceAdd, Option.some.inj ew_0, Option.some.inj ew_1]); simp only [List.cons_append, List.nil_append, List.append_nil, List.map_cons, List.map_nil, List.length_cons, List.length_nil, Nat.zero_add, Nat.reduceAdd, q5w, Nat.add_assoc, List.drop_succ_cons, q67] at sf_0; simp only [go_sem, g_2, sf_0, Nat.mul_one]; refine And.intro (by omega) ?_
      have rm_0 : enc (List.set (rv_0.ins.2 ++ [(⟨([] : List GItem), ([] : List GItem)⟩ : Arr2 (List GItem))]) (rv_0.ins.1.length) (⟨w_0, w_1⟩ : Arr2 (List GItem))) = (enc (rv_0.ins.2 ++ [(⟨([] : List GItem), ([] : List GItem)⟩ : Arr2 (List GItem))])).set (rv_0.ins.1.length) [.sl 3 (enc w_0), .sl 3 (enc w_1)] := q7y (rv_0.ins.2 ++ [(⟨([] : List GItem), ([] : List GItem)⟩ : Arr2 (List GItem))]) (rv_0.ins.1.length) (⟨w_0, w_1⟩ : Arr2 (List GItem)); refine q79 (fun _ _ _ _ H => H.closeM0n (id := 1) (id2 := 7) (r := [.sl 3 (enc w_0), .sl 3 (enc w_1)]) [.sl 3 (enc w_0), .sl 3 (enc w_1)] rfl rfl rfl ⟨.inl rfl, .inl rfl, trivial⟩ (R' := enc (List.set (rv_0.ins.2 ++ [(⟨([] : List GItem), ([] : List GItem)⟩ : Arr2 (List GItem))]) (rv_0.ins.1.length) (⟨w_0, w_1⟩ : Arr2 (List GItem)))) rm_0) ?_; refine q27 ?_; simp only [go_sem]; obtain rfl := Option.some.inj h; refine q1s [some 4] ?_; simp only [go_sem, Le] <;> (repeat' apply And.intro) <;> (try with_reducible refine q03 ?_) <;> first | omega | (simp [go_sem]; done)
    ·
      obtain ⟨v_1, ev_1, h⟩ := z8 h; have hk_1 : (u6 rv_0.ins.1)[i_0]? = some (Value.agg ⟨[.int .i64 nv_0, .int .i64 t_0.D, .int .i64 t_0.C.a0, .int .i64 t_0.C.a1, .int .i64 t_0.C.a2, .int .i64 t_0.C.a3]⟩) := qg8 hm_0; refine reW (fun _ _ _ _ H => H.openM0 (id := 1) (i := i_0) (r := [.sl 3 (enc v_1.a0), .sl 3 (enc v_1.a1)]) rfl (qz0 ev_1)) ?_; refine q7e ?_; refine wv ?_; refine q07 ?_; refine j8g ?_; simp only [go_sem, q4a, hk_1]; refine q27 ?_; refine y5 Q6 ?_; refine j5x (by (simp only [go_sem]; done)) ?_; refine wv ?_; refine y7 (y5 Q5 ?_); refine q7e ?_; refine wv ?_; refine q07 ?_; refine j8g ?_; obtain ⟨g_3, h⟩ := q09 h; obtain ⟨xv_1, ex1, h⟩ := z8 h; obtain ⟨f1a, f1b, f1c, fxv_1d⟩ := qr1 (f := (fun y => AV.sl 3 (enc y))) [] [] ex1; simp only [List.cons_append, List.nil_append, List.append_nil, List.map_cons, List.map_nil, List.length_cons, List.length_nil, Nat.zero_add, Nat.reduceAdd, q67] at f1b f1c fxv_1d; obtain ⟨v_2, ev_2, h⟩ := z8 h; simp only [go_sem, q4a, hk_1, q4a, hk_1, g_3, f1a, f1b, f1c, fxv_1d]; refine And.intro (by first | omega | (intros; simp_all; done)) ?_; refine And.intro (by first | omega | (intros; simp_all; done)) ?_; simp only [List.getD_eq_getElem?_getD, Nat.mul_one, fxv_1d, Option.map_some, Option.getD_some, true_and]; simp only [go_sem, q4a, hk_1, q4a, hk_1, g_3, f1a, f1b, f1c, fxv_1d, List.getD_eq_getElem?_getD, Nat.mul_one, fxv_1d, Option.map_some, Option.getD_some, true_and]; refine callq (fun _ => (z2d xv_1 b_0 v_2 ev_2)) (by rfl) (by rfl) ?_; obtain ⟨g_4, h⟩ := q09 h; obtain ⟨w_2, ew_2, h⟩ := z8 h; obtain ⟨w_3, ew_3, h⟩ := z8 h; have sf_1 := z6i (f := (fun y => AV.sl 3 (enc y))) [] [] [v_1.a0, v_1.a1] [w_2, w_3] (port_0.toNat) v_2 (by simp only [List.length_cons, List.length_nil]; omega) (by simp only [List.mapIdx_cons, List.mapIdx_nil, Nat.zero_add, Nat.reduceAdd, Option.some.inj ew_2, Option.some.inj ew_3])
      simp only [List.cons_append, List.nil_append, List.append_nil, List.map_cons, List.map_nil, List.length_cons, List.length_nil, Nat.zero_add, Nat.reduceAdd, q5w, Nat.add_assoc, List.drop_succ_cons, q67] at sf_1; simp only [go_sem, g_4, sf_1, Nat.mul_one]; refine And.intro (by omega) ?_; have rm_1 : enc (List.set rv_0.ins.2 i_0 (⟨w_2, w_3⟩ : Arr2 (List GItem))) = (enc rv_0.ins.2).set i_0 [.sl 3 (enc w_2), .sl 3 (enc w_3)] := q7y rv_0.ins.2 i_0 (⟨w_2, w_3⟩ : Arr2 (List GItem)); refine q79 (fun _ _ _ _ H => H.closeM0n (id := 1) (id2 := 7) (r := [.sl 3 (enc w_2), .sl 3 (enc w_3)]) [.sl 3 (enc w_2), .sl 3 (enc w_3)] rfl rfl rfl ⟨.inl rfl, .inl rfl, trivial⟩ (R' := enc (List.set rv_0.ins.2 i_0 (⟨w_2, w_3⟩ : Arr2 (List GItem)))) rm_1) ?_; refine q27 ?_; simp only [go_sem]; obtain rfl := Option.some.inj h; refine q1s [some 4] ?_; simp only [go_sem, Le] <;> (repeat' apply And.intro) <;> (try with_reducible refine q03 ?_) <;> first | omega | (simp [go_sem]; done)
def qr5 (b_0 : List GItem) (rec_1 : Int × Int → Option Int) : Int × Int → Option Int :=
 fun (nv_1, t8_1) =>
 (if (decide (t8_1 < (b_0.length : Int))) = true then q9 (idx b_0 t8_1) (fun xv_2 =>
 rec_1 (i64.wrap (nv_1 + xv_2.N), i64.wrap (t8_1 + 1)))
 else some nv_1)
def qk3 (b_0 : List GItem) : Option Int :=
 d9 (qr5 b_0) rounds (0, 0)
instance z8l (b_0 : List GItem) : Ct pp 60 (qk3 b_0) [.sl 3 (enc b_0)] fun r => (.v (.int .i64 r)) := ctK Tryz.func60 rfl (by rw [qk3]) (by
 intro r h F; refine sM ?_; refine sM ?_; refine jg fun _ Q3 => ?_; refine sM ?_; refine w9 fun _ Q5 => ?_; refine q0n h [6, 7] (fun x => ([(3, .v (.int .i64 x.1)), (8, .v (.int .i64 x.2))], [])) 0 ?_; rintro m_1 ⟨nv_1, t8_1⟩ h _ Q6; rw [qr5] at h; exact au)
def q3k (rv_0 : GMean_runner) (rec_1 : Unit → Option ((List GItem) × GMean_runner)) : Unit → Option ((List GItem) × GMean_runner) :=
 fun _ =>
 (if (decide (0 < 0)) = true then none
 else some (([] : List GItem), rv_0))
def q2e (rv_0 : GMean_runner) (nv_0 : Int) (t_0 : GTime) (v_0 : List GCount) (rec_2 : Int × (List GItem) → Option ((List GItem) × GMean_runner)) : Int × (List GItem) → Option ((List GItem) × GMean_runner) :=
 fun (t17_1, a_1) =>
 (if (decide (t17_1 < (v_0.length : Int))) = true then q9 (idx v_0 t17_1) (fun xv_2 =>
 q9 (z10 xv_2.Time t_0) (fun v_9 =>
 (if v_9 = true then (ql0 (q2k rv_0.bags.1 ((⟨nv_0, xv_2.Time⟩ : GMean_point))) (p9 (Key.okb ((⟨nv_0, xv_2.Time⟩ : GMean_point)) = true) (
 q9 (q42 a_1 ([] : List GItem)) (fun v_10 =>
 rec_2 (i64.wrap (t17_1 + 1), v_10))))
 (fun i_3 => q9 (atK rv_0.bags.2 i_3) (fun v_11 =>
 q9 (q42 a_1 v_11) (fun v_12 =>
 rec_2 (i64.wrap (t17_1 + 1), v_12)))))
 else rec_2 (i64.wrap (t17_1 + 1), a_1))))
 else some (a_1, rv_0))
def q0u (rv_0 : GMean_runner) (nv_0 : Int) (t_0 : GTime) : Option ((List GItem) × GMean_runner) :=
 (ql0 (q2k rv_0.past.1 nv_0) (p9 (Key.okb nv_0 = true) (
 d9 (q3k rv_0) rounds ()))
 (fun i_0 => q9 (atK rv_0.past.2 i_0) (fun v_0 =>
 d9 (q2e rv_0 nv_0 t_0 v_0) rounds (0, []))))
theorem q39 (rv_0 : GMean_runner) (nv_0 : Int) (t_0 : GTime)  (r : (List GItem) × GMean_runner) (h : q0u rv_0 nv_0 t_0 = some r) : DetS pp 56 [.ptr 0 0, .v (.int .i64 nv_0), .agg (Row.row t_0)] [(0, .box [.sl 1 (enc rv_0.g.Parent), .sl 1 (enc rv_0.g.Bound), .sl 4 (enc rv_0.g.Nodes), .sl 4 (enc rv_0.g.Edges), .mp 1, .mp 2, .mp 3, .v (.int .i64 rv_0.work), .v (.int .i64 rv_0.most), .osl 4 4 (0) (rv_0.outs.length), .v (.int .i64 rv_0.e)]), (1, .con (x8 pp 78 0 (u6 rv_0.ins.1) (enc rv_0.ins.2) none) []), (2, .con (x8 pp 3 1 (u6 rv_0.past.1) (enc rv_0.past.2) none) []), (3, .con (x8 pp 78 2 (u6 rv_0.bags.1) (enc rv_0.bags.2) none) []), (4, .arr 4 (enc rv_0.outs))] 5 (.osl 5 3 (0) (r.1.length)) [(0, .box [.sl 1 (enc r.2.g.Parent), .sl 1 (enc r.2.g.Bound), .sl 4 (enc r.2.g.Nodes), .sl 4 (enc r.2.g.Edges), .mp 1, .mp 2, .mp 3, .v (.int .i64 r.2.work), .v (.int .i64 r.2.most), .osl 6 4 (0) (r.2.outs.length), .v (.int .i64 r.2.e)]), (1, .con (x8 pp 78 0 (u6 r.2.ins.1) (enc r.2.ins.2) none) []), (2, .con (x8 pp 3 1 (u6 r.2.past.1) (enc r.2.past.2) none) []), (3, .con (x8 pp 78 2 (u6 r.2.bags.1) (enc r.2.bags.2) none) []), (5, .arr 3 (enc r.1)), (6, .arr 4 (enc r.2.outs))] 7 := by
  unfold DetS; refine Spec.of_wp Tryz.func56 rfl (by kernel_rfl) (by kernel_rfl) ?_; rw [q0u] at h; refine sgW fun _ Q1 => ?_; refine wv ?_; simp only [go_sem]; refine y5 Q1 ?_; refine sgW fun _ Q2 => ?_; refine wv ?_; simp only [go_sem]; refine y5 Q2 ?_; refine sgW fun _ Q3 => ?_; refine sgW fun _ Q4 => ?_; refine q91 h (fun hm_0 h => ?_) (fun i_0 hm_0 h => ?_)
  ·
    obtain ⟨g_0, h⟩ := q09 h; have hn_0 : ¬ (Value.int .i64 nv_0) ∈ u6 rv_0.past.1 := qg9 hm_0; have hk_0 : ∃ l, keyOf pp 3 (Value.int .i64 nv_0) = some l := j0m nv_0 g_0; refine q7e ?_; refine wv ?_; simp only [go_sem, z0z, hn_0, hk_0]; refine q27 ?_; refine y5 Q4 ?_; refine qb9 fun _ Q5 => ?_; refine z3y (ι := Nat × Unit) (fun ((_, _) : Nat × Unit) => (⟨5, [(0, .ptr 0 0), (1, .v (.int .i64 nv_0)), (5, .ptr 5 0), (7, .v (.slice none 0 0)), (15, .v (.slice none 0 0)), (16, .v (.int .i64 0)), (17, .v (.int .i64 0))], [(0, .box [.sl 1 (enc rv_0.g.Parent), .sl 1 (enc rv_0.g.Bound), .sl 4 (enc rv_0.g.Nodes), .sl 4 (enc rv_0.g.Edges), .mp 1, .mp 2, .mp 3, .v (.int .i64 rv_0.work), .v (.int .i64 rv_0.most), .osl 4 4 (0) (rv_0.outs.length), .v (.int .i64 rv_0.e)]), (1, .con (x8 pp 78 0 (u6 rv_0.ins.1) (enc rv_0.ins.2) none) []), (2, .con (x8 pp 3 1 (u6 rv_0.past.1) (enc rv_0.past.2) none) []), (3, .con (x8 pp 78 2 (u6 rv_0.bags.1) (enc rv_0.bags.2) none) []), (4, .arr 4 (enc rv_0.outs)), (5, .box (Row.row t_0))], 6, 38⟩ : St)) (fun ((n_, u_) : Nat × Unit) => d9 (q3k rv_0) n_ u_ = some r) (fun p => p.1) (rounds, ()) [some 5] ?_ h ?_
    · simp only [go_sem, Le] <;> (repeat' apply And.intro) <;> (try with_reducible refine q03 ?_) <;> first | omega | (simp [go_sem]; done)
    · rintro ⟨n_1, _⟩ h _ Q6
      dsimp only at h; replace h := q9o h; obtain ⟨m_1, rfl, h⟩ := h; rw [q3k] at h; refine sgW fun _ Q7 => ?_; refine wv ?_; simp only [go_sem]; refine y5 Q7 ?_; refine sgW fun _ Q8 => ?_; refine q3m (b := (decide (0 < 0))) (by (simp only [go_sem]; done)) (fun hb_1 => ?_) (fun hb_1 => ?_)
      ·
        replace h := q44 h hb_1; simp only [bool_to_prop] at hb_1; refine wv ?_; refine y7 (y5 Q8 ?_); refine sgW fun _ Q9 => ?_; refine qb9 fun _ Q10 => ?_; refine sgW fun _ Q11 => ?_; refine wv ?_; exact absurd h (by simp)
      ·
        replace h := q45 h hb_1; simp only [bool_to_prop] at hb_1; refine wv ?_; refine q0s (qm2 Q8 ?_); refine q0t Q6 (q0k Q5 (y5 Q3 ?_)); refine sgW fun _ Q12 => ?_; refine wv ?_; simp only [go_sem]; refine y5 Q12 ?_; refine wv ?_; refine q02 ?_; simp only [go_sem]; obtain rfl := Option.some.inj h; refine q1s [none, some 4] ?_; simp only [go_sem, Le] <;> (repeat' apply And.intro) <;> (try with_reducible refine q03 ?_) <;> first | omega | (simp [go_sem]; done)
  ·
    obtain ⟨v_0, ev_0, h⟩ := z8 h; have hk_1 : (u6 rv_0.past.1)[i_0]? = some (Value.int .i64 nv_0) := qg8 hm_0; refine reW (fun _ _ _ _ H => H.openM1 (id := 2) (i := i_0) (isz := 6) (xs := enc v_0) rfl (qz0 ev_0)) ?_; simp only [q0w]; refine q7e ?_; refine wv ?_; simp only [go_sem, z0z, hk_1]; refine q27 ?_; refine y5 Q4 ?_; refine qb9 fun _ Q13 => ?_; refine z3y (ι := Nat × Int × (List GItem)) (fun ((_, t17_1, a_1) : Nat × Int × (List GItem)) => (⟨5, [(0, .ptr 0 0), (1, .v (.int .i64 nv_0)), (5, .ptr 5 0), (7, .osl 6 3 (0) (a_1.length)), (15, .osl 7 6 (0) (v_0.length)), (16, .v (.int .i64 (v_0.length : Int))), (17, .v (.int .i64 t17_1))], [(0, .box [.sl 1 (enc rv_0.g.Parent), .sl 1 (enc rv_0.g.Bound), .sl 4 (enc rv_0.g.Nodes), .sl 4 (enc rv_0.g.Edges), .mp 1, .mp 2, .mp 3, .v (.int .i64 rv_0.work), .v (.int .i64 rv_0.most), .osl 4 4 (0) (rv_0.outs.length), .v (.int .i64 rv_0.e)]), (1, .con (x8 pp 78 0 (u6 rv_0.ins.1) (enc rv_0.ins.2) none) []), (2, .con (x8 pp 3 1 (u6 rv_0.past.1) (enc rv_0.past.2) (some i_0)) [.osl 7 6 (0) (v_0.length)]), (3, .con (x8 pp 78 2 (u6 rv_0.bags.1) (enc rv_0.bags.2) none) []), (4, .arr 4 (enc rv_0.outs)), (5, .box (Row.row t_0)), (6, .arr 3 (enc a_1)), (7, .arr 6 (enc v_0))], 8, 38⟩ : St)) (fun ((n_, t17_1, a_1) : Nat × Int × (List GItem)) => d9 (q2e rv_0 nv_0 t_0 v_0) n_ (t17_1, a_1) = some r) (fun p => p.1) (rounds, 0, []) [some 5, none, some 6] ?_ h ?_
    · simp only [go_sem, Le] <;> (repeat' apply And.intro) <;> (try with_reducible refine q03 ?_) <;> first | omega | (simp [go_sem]; done)
    · rintro ⟨n_2, t17_1, a_1⟩ h _ Q14
      dsimp only at h; replace h := q9o h; obtain ⟨m_2, rfl, h⟩ := h; rw [q2e] at h; refine sgW fun _ Q15 => ?_; refine wv ?_; simp only [go_sem]; refine y5 Q15 ?_; refine sgW fun _ Q16 => ?_; refine q3m (b := (decide (t17_1 < (v_0.length : Int)))) (by (simp only [go_sem]; done)) (fun hb_6 => ?_) (fun hb_6 => ?_)
      ·
        replace h := q44 h hb_6; simp only [bool_to_prop] at hb_6; refine wv ?_; refine y7 (y5 Q16 ?_); refine sgW fun _ Q17 => ?_; refine qb9 fun _ Q18 => ?_; refine sgW fun _ Q19 => ?_; refine wv ?_; obtain ⟨xv_2, ex2, h⟩ := z8 h; obtain ⟨f2a, f2b, f2c⟩ := ql6 ex2; simp only [go_sem, f2a, f2b, f2c]; refine And.intro (by omega) ?_; refine y5 Q19 ?_; refine sgW fun _ Q20 => ?_; refine wv ?_; obtain ⟨v_9, ev_9, h⟩ := z8 h; simp only [go_sem]; refine q99 (zv4 xv_2.Time t_0 v_9 ev_9) (by rfl) (by rfl) ?_; simp only [go_sem]; refine y5 Q20 ?_; refine q3m (b := v_9) (by (simp only [go_sem]; done)) (fun hb_7 => ?_) (fun hb_7 => ?_)
        ·
          replace h := q44 h hb_7; refine q91 h (fun hm_3 h => ?_) (fun i_3 hm_3 h => ?_)
          ·
            obtain ⟨g_3, h⟩ := q09 h; have hn_3 : ¬ (Value.agg ⟨[.int .i64 nv_0, .int .i64 xv_2.Time.D, .int .i64 xv_2.Time.C.a0, .int .i64 xv_2.Time.C.a1, .int .i64 xv_2.Time.C.a2, .int .i64 xv_2.Time.C.a3]⟩) ∈ u6 rv_0.bags.1 := qg9 hm_3; have hk_6 : ∃ l, keyOf pp 78 (Value.agg ⟨[.int .i64 nv_0, .int .i64 xv_2.Time.D, .int .i64 xv_2.Time.C.a0, .int .i64 xv_2.Time.C.a1, .int .i64 xv_2.Time.C.a2, .int .i64 xv_2.Time.C.a3]⟩) = some l := z0x ((⟨nv_0, xv_2.Time⟩ : GMean_point)) g_3; refine q7e ?_; refine wv ?_; refine q07 ?_; refine j8g ?_; obtain ⟨v_10, ev_10, h⟩ := z8 h; simp only [go_sem, q4a, hn_3, hk_6]; refine qi9 (s' := (⟨5, [(0, .ptr 0 0), (1, .v (.int .i64 nv_0)), (5, .ptr 5 0), (7, .sl 3 (enc a_1)), (15, .osl 6 6 (0) (v_0.length)), (16, .v (.int .i64 (v_0.length : Int))), (17, .v (.int .i64 t17_1))], [(0, .box [.sl 1 (enc rv_0.g.Parent), .sl 1 (enc rv_0.g.Bound), .sl 4 (enc rv_0.g.Nodes), .sl 4 (enc rv_0.g.Edges), .mp 1, .mp 2, .mp 3, .v (.int .i64 rv_0.work), .v (.int .i64 rv_0.most), .osl 4 4 (0) (rv_0.outs.length), .v (.int .i64 rv_0.e)]), (1, .con (x8 pp 78 0 (u6 rv_0.ins.1) (enc rv_0.ins.2) none) []), (2, .con (x8 pp 3 1 (u6 rv_0.past.1) (enc rv_0.past.2) (some i_0)) [.osl 6 6 (0) (v_0.length)]), (3, .con (x8 pp 78 2 (u6 rv_0.bags.1) (enc rv_0.bags.2) none) []), (4, .arr 4 (enc rv_0.outs)), (5, .box (Row.row t_0)), (6, .arr 6 (enc v_0)), (7, .box (Row.row xv_2))], 8, 38⟩ : St)) (l := [some 5, some 7, some 8]) (args' := [.sl 3 (enc a_1), .sl 3 (enc ([] : List GItem))]) ?_ ?_ ?_
            · simp only [go_sem, Le] <;> (repeat' apply And.intro) <;> (try with_reducible refine q03 ?_) <;> first | omega | (simp [go_sem]; done)
            · simp only [go_sem, Le] <;> (repeat' apply And.intro) <;> ((try with_reducible refine q03 ?_); (simp [go_sem]; done))
            refine q5t [] (qr7 a_1 ([] : List GItem) v_10 ev_10) (by simp) rfl trivial rfl rfl rfl rfl ?_; simp only [go_sem]; refine q27 ?_; refine q04 Q18 (y5 Q17 ?_); refine wv ?_; simp only [go_sem]; refine x9 Q14 (⟨(m_2, i64.wrap (t17_1 + 1), v_10), [some 5, some 8, some 6], ?_, h, Nat.lt_succ_self _⟩); simp only [go_sem, Le] <;> (repeat' apply And.intro) <;> (try with_reducible refine q03 ?_) <;> first | omega | (simp [go_sem]; done)
          ·
            obtain ⟨v_11, ev_11, h⟩ := z8 h; have hk_7 : (u6 rv_0.bags.1)[i_3]? = some (Value.agg ⟨[.int .i64 nv_0, .int .i64 xv_2.Time.D, .int .i64 xv_2.Time.C.a0, .int .i64 xv_2.Time.C.a1, .int .i64 xv_2.Time.C.a2, .int .i64 xv_2.Time.C.a3]⟩) := qg8 hm_3; refine reW (fun _ _ _ _ H => H.openM2 (id := 3) (i := i_3) (x := .sl 3 (enc v_11)) rfl (qz0 ev_11)) ?_; refine q7e ?_; refine wv ?_; refine q07 ?_; refine j8g ?_; obtain ⟨v_12, ev_12, h⟩ := z8 h; simp only [go_sem, q4a, hk_7]; refine qi9 (s' := (⟨5, [(0, .ptr 0 0), (1, .v (.int .i64 nv_0)), (5, .ptr 5 0), (7, .sl 3 (enc a_1)), (15, .osl 6 6 (0) (v_0.length)), (16, .v (.int .i64 (v_0.length : Int))), (17, .v (.int .i64 t17_1))], [(0, .box [.sl 1 (enc rv_0.g.Parent), .sl 1 (enc rv_0.g.Bound), .sl 4 (enc rv_0.g.Nodes), .sl 4 (enc rv_0.g.Edges), .mp 1, .mp 2, .mp 3, .v (.int .i64 rv_0.work), .v (.int .i64 rv_0.most), .osl 4 4 (0) (rv_0.outs.length), .v (.int .i64 rv_0.e)]), (1, .con (x8 pp 78 0 (u6 rv_0.ins.1) (enc rv_0.ins.2) none) []), (2, .con (x8 pp 3 1 (u6 rv_0.past.1) (enc rv_0.past.2) (some i_0)) [.osl 6 6 (0) (v_0.length)]), (3, .con (x8 pp 78 2 (u6 rv_0.bags.1) (enc rv_0.bags.2) (some i_3)) [.sl 3 (enc v_11)]), (4, .arr 4 (enc rv_0.outs)), (5, .box (Row.row t_0)), (6, .arr 6 (enc v_0)), (7, .box (Row.row xv_2))], 8, 38⟩ : St)) (l := [some 5, some 7, some 8]) (args' := [.sl 3 (enc a_1), .sl 3 (enc v_11)]) ?_ ?_ ?_
            · simp only [go_sem, Le] <;> (repeat' apply And.intro) <;> (try with_reducible refine q03 ?_) <;> first | omega | (simp [go_sem]; done)
            · simp only [go_sem, Le] <;> (repeat' apply And.intro) <;> ((try with_reducible refine q03 ?_); (simp [go_sem]; done))
            refine q5t [] (qr7 a_1 v_11 v_12 ev_12) (by simp) rfl trivial rfl rfl rfl rfl ?_; simp only [go_sem]; have rm_4 : enc rv_0.bags.2 = (enc rv_0.bags.2).set i_3 [.sl 3 (enc v_11)] := z5q ev_11; refine q79 (fun _ _ _ _ H => H.closeM2 (id := 3) rfl rfl (R' := enc rv_0.bags.2) rm_4) ?_; refine q27 ?_; refine q04 Q18 (y5 Q17 ?_); refine wv ?_; simp only [go_sem]; refine x9 Q14 (⟨(m_2, i64.wrap (t17_1 + 1), v_12), [some 5, some 8, some 6], ?_, h, Nat.lt_succ_self _⟩); simp only [go_sem, Le] <;> (repeat' apply And.intro) <;> (try with_reducible refine q03 ?_) <;> first | omega | (simp [go_sem]; done)
        ·
          replace h := q45 h hb_7; refine wv ?_; refine y7 (q04 Q18 (y5 Q17 ?_)); refine wv ?_; simp only [go_sem]; refine x9 Q14 (⟨(m_2, i64.wrap (t17_1 + 1), a_1), [some 5, some 6, some 7], ?_, h, Nat.lt_succ_self _⟩); simp only [go_sem, Le] <;> (repeat' apply And.intro) <;> (try with_reducible refine q03 ?_) <;> first | omega | (simp [go_sem]; done)
      ·
        replace h := q45 h hb_6; simp only [bool_to_prop] at hb_6; refine wv ?_; refine q0s (qm2 Q16 ?_); refine q0t Q14 (q0k Q13 (y5 Q3 ?_)); refine sgW fun _ Q21 => ?_; refine wv ?_; simp only [go_sem]; refine y5 Q21 ?_; have rm_5 : enc rv_0.past.2 = (enc rv_0.past.2).set i_0 [.sl 6 (enc v_0)] := z5q ev_0; refine reW (fun _ _ _ _ H => H.closeM1 (id := 2) (id2 := 7) rfl rfl (by simp [q0w]) (R' := enc rv_0.past.2) rm_5) ?_; refine wv ?_; refine q02 ?_; simp only [go_sem]; obtain rfl := Option.some.inj h; refine q1s [some 6, some 4] ?_; simp only [go_sem, Le] <;> (repeat' apply And.intro) <;> (try with_reducible refine q03 ?_) <;> first | omega | (simp [go_sem]; done)
def q3f (rv_0 : GMean_runner) (nv_0 : Int) (t_0 : GTime) : Option (GTime × Bool × GMean_runner) :=
 q9 (idx rv_0.g.Nodes nv_0) (fun xv_0 =>
 (if (xv_0.Kind == 10) = true then q9 (qi0 t_0) (fun v_0 =>
 some (v_0.1, v_0.2, rv_0))
 else (if (xv_0.Kind == 11) = true then q9 (qh9 t_0) (fun v_1 =>
 some (v_1.1, v_1.2, rv_0))
 else (if (xv_0.Kind == 12) = true then q9 (qn0 t_0) (fun v_2 =>
 (if v_2.2 = true then p9 (0 ≤ i64.wrap (v_2.1.D - 1) ∧ i64.wrap (v_2.1.D - 1) < 4) (
 q9 (idx ([v_2.1.C.a0, v_2.1.C.a1, v_2.1.C.a2, v_2.1.C.a3] : List Int) (i64.wrap (v_2.1.D - 1))) (fun xv_1 =>
 q9 (idx rv_0.g.Bound xv_0.Scope) (fun xv_2 =>
 some (v_2.1, (decide (xv_1 < xv_2)), rv_0))))
 else some (v_2.1, false, rv_0)))
 else some (t_0, true, rv_0)))))
theorem qn4 (rv_0 : GMean_runner) (nv_0 : Int) (t_0 : GTime)  (r : GTime × Bool × GMean_runner) (h : q3f rv_0 nv_0 t_0 = some r) : DetS pp 59 [.ptr 0 0, .v (.int .i64 nv_0), .agg (Row.row t_0)] [(0, .box [.sl 1 (enc rv_0.g.Parent), .sl 1 (enc rv_0.g.Bound), .sl 4 (enc rv_0.g.Nodes), .sl 4 (enc rv_0.g.Edges), .mp 1, .mp 2, .mp 3, .v (.int .i64 rv_0.work), .v (.int .i64 rv_0.most), .osl 4 4 (0) (rv_0.outs.length), .v (.int .i64 rv_0.e)]), (1, .con (x8 pp 78 0 (u6 rv_0.ins.1) (enc rv_0.ins.2) none) []), (2, .con (x8 pp 3 1 (u6 rv_0.past.1) (enc rv_0.past.2) none) []), (3, .con (x8 pp 78 2 (u6 rv_0.bags.1) (enc rv_0.bags.2) none) []), (4, .arr 4 (enc rv_0.outs))] 5 (.tup [.agg (Row.row r.1), .v (.bool r.2.1)]) [(0, .box [.sl 1 (enc r.2.2.g.Parent), .sl 1 (enc r.2.2.g.Bound), .sl 4 (enc r.2.2.g.Nodes), .sl 4 (enc r.2.2.g.Edges), .mp 1, .mp 2, .mp 3, .v (.int .i64 r.2.2.work), .v (.int .i64 r.2.2.most), .osl 5 4 (0) (r.2.2.outs.length), .v (.int .i64 r.2.2.e)]), (1, .con (x8 pp 78 0 (u6 r.2.2.ins.1) (enc r.2.2.ins.2) none) []), (2, .con (x8 pp 3 1 (u6 r.2.2.past.1) (enc r.2.2.past.2) none) []), (3, .con (x8 pp 78 2 (u6 r.2.2.bags.1) (enc r.2.2.bags.2) none) []), (5, .arr 4 (enc r.2.2.outs))] 6 := by
 refine dtI Tryz.func59 rfl ?_; rw [q3f] at h; have F := trivial; refine sM ?_; refine sg fun _ Q2 => ?_; obtain ⟨xv_0, F, h⟩ := bI F h; simp only [go_sem, F]; refine ai ?_; refine q8 Q2 (sg fun _ Q3 => ?_); refine sM ?_; refine w9 fun _ Q5 => ?_; refine sM ?_; refine sB h (fun _ h => ?_) fun _ h => ?_
 · exact au
 ·
  refine sM ?_; refine sB h (fun _ h => ?_) fun _ h => ?_
  · exact au
  ·
   refine sM ?_; refine sB h (fun _ h => ?_) fun _ h => ?_
   ·
    refine sg fun _ Q11 => ?_; simp only [go_sem]; refine q5u h fun v_2 h => ?_; simp only [go_sem]; refine q8 Q11 (sg fun _ Q12 => ?_); refine q07 ?_; refine q3g 21 0 0 [0, 0, 2, 6, 14, 30, 6, 126, 254, 6, 518, 1542, 3590, 7686, 6, 16390, 65030, 130566, 262142, 524286, 7, 2097151] [6] [3, 4, 5, 6, 7, 8, 9, 10, 11, 12, 13, 14, 15, 16, 17, 18, 19] [] [20] [] mixed (by kernel_rfl) (of_decide_eq_true (by kernel_rfl)) (by kernel_rfl) (by kernel_rfl) (by rfl) ?_; simp only [go_sem]; rcases hb_3 : v_2.2 with _ | _
    · replace h := q45 h hb_3; simp only [go_sem, hb_3]; exact au
    · replace h := q44 h hb_3; obtain ⟨F, h⟩ := bG F h; obtain ⟨xv_1, ex1, h⟩ := z8 h; obtain ⟨f1a, f1b, f1c, fxv_1d⟩ := qr1 (f := (fun y => AV.v (.int .i64 y))) [.v (.int .i64 v_2.1.D)] [] ex1; simp only [List.cons_append, List.nil_append, List.append_nil, List.map_cons, List.map_nil, List.length_cons, List.length_nil, Nat.zero_add, Nat.reduceAdd, q67] at f1b f1c fxv_1d; obtain ⟨xv_2, F, h⟩ := bI F h; simp only [go_sem, hb_3, f1a, f1b, f1c, fxv_1d, F]; refine ai ?_; refine ai ?_; simp only [List.getD_eq_getElem?_getD, Nat.mul_one, fxv_1d, Option.map_some, Option.getD_some, true_and]; exact au
   · exact au
def q4d (b_5 : GMean_runner) : Option (Bool × GMean_runner) :=
 (if (decide (b_5.most < b_5.work)) = true then some (true, (⟨b_5.g, b_5.ins, b_5.past, b_5.bags, b_5.work, b_5.most, b_5.outs, 9⟩ : GMean_runner))
 else some (true, b_5))
def q2x (nv_0 : Int) (v_10 : GTime × Bool × GMean_runner) (rec_4 : (List GItem) × Int × GMean_runner → Option (Bool × GMean_runner)) : (List GItem) × Int × GMean_runner → Option (Bool × GMean_runner) :=
 fun (out_3, t153_3, b_7) =>
 (if (decide (t153_3 < (v_10.2.2.g.Edges.length : Int))) = true then q9 (idx v_10.2.2.g.Edges t153_3) (fun xv_9 =>
 (if (xv_9.From == nv_0) = true then q9 (q2n b_7 xv_9.To xv_9.Port v_10.1 out_3) (fun v_21 =>
 q9 (qk3 out_3) (fun v_22 =>
 rec_4 (out_3, i64.wrap (t153_3 + 1), (⟨v_21.g, v_21.ins, v_21.past, v_21.bags, i64.wrap (v_21.work + v_22), v_21.most, v_21.outs, v_21.e⟩ : GMean_runner))))
 else rec_4 (out_3, i64.wrap (t153_3 + 1), b_7)))
 else q4d b_7)
def q4e (nv_0 : Int) (t_0 : GTime) (b_0 : GMean_runner) (v_8 : (List GItem) × Bool) : Option (Bool × GMean_runner) :=
 q9 (q3f b_0 nv_0 t_0) (fun v_10 =>
 (if ((!v_10.2.1) || ((v_8.1.length : Int) == 0)) = true then some (false, v_10.2.2)
 else d9 (q2x nv_0 v_10) rounds (v_8.1, 0, v_10.2.2)))
def q2w (nv_0 : Int) (t_0 : GTime) (v_23 : (List GRec) × Bool) (rec_5 : Int × GMean_runner → Option (Bool × GMean_runner)) : Int × GMean_runner → Option (Bool × GMean_runner) :=
 fun (t113_3, b_9) =>
 (if (decide (t113_3 < (v_23.1.length : Int))) = true then q9 (idx v_23.1 t113_3) (fun xv_12 =>
 p9 ((b_9.outs.length + List.length ([(⟨nv_0, t_0.C.a0, xv_12⟩ : GOut)] : List GOut)) * 32 ≤ 140737488355328) (
 rec_5 (i64.wrap (t113_3 + 1), (⟨b_9.g, b_9.ins, b_9.past, b_9.bags, b_9.work, b_9.most, (b_9.outs ++ ([(⟨nv_0, t_0.C.a0, xv_12⟩ : GOut)] : List GOut)), b_9.e⟩ : GMean_runner))))
 else some (false, b_9))
def q0j (nv_0 : Int) (t_0 : GTime) (xv_0 : GNode) (ports_0 : List (List GItem)) (b_0 : GMean_runner) : Option (Bool × GMean_runner) :=
 q9 (q7k xv_0 ports_0) (fun v_8 =>
 (if (!v_8.2) = true then some (false, (⟨b_0.g, b_0.ins, b_0.past, b_0.bags, b_0.work, b_0.most, b_0.outs, 9⟩ : GMean_runner))
 else (if (xv_0.Kind == 15) = true then q9 (qp1 v_8.1) (fun v_23 =>
 d9 (q2w nv_0 t_0 v_23) rounds (0, b_0))
 else q4e nv_0 t_0 b_0 v_8)))
def q3n (rv_0 : GMean_runner) (nv_0 : Int) (t_0 : GTime) : Option (Bool × GMean_runner) :=
 (ql0 (q2k rv_0.ins.1 ((⟨nv_0, t_0⟩ : GMean_point))) (p9 (Key.okb ((⟨nv_0, t_0⟩ : GMean_point)) = true) (
 some (false, rv_0)))
 (fun i_0 => q9 (atK rv_0.ins.2 i_0) (fun v_0 =>
 (if (!(rv_0.e == 0)) = true then some (false, rv_0)
 else q9 (idx rv_0.g.Nodes nv_0) (fun xv_0 =>
 p9 (0 ≤ 0 ∧ 0 ≤ 2 ∧ 2 ≤ 2) (
 (if (xv_0.Kind == 14) = true then (ql0 (q2k rv_0.past.1 nv_0) (p9 (Key.okb nv_0 = true) (
 p9 ((List.length ([(⟨t_0, 1⟩ : GCount)] : List GCount)) * 48 ≤ 140737488355328) (
 (ql0 (q2k rv_0.bags.1 ((⟨nv_0, t_0⟩ : GMean_point))) (p9 (Key.okb ((⟨nv_0, t_0⟩ : GMean_point)) = true) (
 q9 (q0u (⟨rv_0.g, Prod.mk (List.eraseIdx rv_0.ins.1 i_0) (List.eraseIdx rv_0.ins.2 i_0), (Prod.mk (rv_0.past.1 ++ [nv_0]) (List.set (rv_0.past.2 ++ [([(⟨t_0, 1⟩ : GCount)] : List GCount)]) (rv_0.past.1.length) ([(⟨t_0, 1⟩ : GCount)] : List GCount))), (Prod.mk (rv_0.bags.1 ++ [(⟨nv_0, t_0⟩ : GMean_point)]) (List.set (rv_0.bags.2 ++ [v_0.a0]) (rv_0.bags.1.length) v_0.a0)), rv_0.work, rv_0.most, rv_0.outs, rv_0.e⟩ : GMean_runner) nv_0 t_0) (fun v_24 =>
 q0j nv_0 t_0 xv_0 ([v_0.a0, v_24.1] : List (List GItem)) v_24.2)))
 (fun i_5 => q9 (atK rv_0.bags.2 i_5) (fun v_25 =>
 q9 (q0u (⟨rv_0.g, Prod.mk (List.eraseIdx rv_0.ins.1 i_0) (List.eraseIdx rv_0.ins.2 i_0), (Prod.mk (rv_0.past.1 ++ [nv_0]) (List.set (rv_0.past.2 ++ [([(⟨t_0, 1⟩ : GCount)] : List GCount)]) (rv_0.past.1.length) ([(⟨t_0, 1⟩ : GCount)] : List GCount))), Prod.mk rv_0.bags.1 (List.set rv_0.bags.2 i_5 v_0.a0), rv_0.work, rv_0.most, rv_0.outs, rv_0.e⟩ : GMean_runner) nv_0 t_0) (fun v_26 =>
 q0j nv_0 t_0 xv_0 ([v_0.a0, v_26.1] : List (List GItem)) v_26.2)))))))
 (fun i_4 => q9 (atK rv_0.past.2 i_4) (fun v_27 =>
 p9 ((v_27.length + List.length ([(⟨t_0, 1⟩ : GCount)] : List GCount)) * 48 ≤ 140737488355328) (
 (ql0 (q2k rv_0.bags.1 ((⟨nv_0, t_0⟩ : GMean_point))) (p9 (Key.okb ((⟨nv_0, t_0⟩ : GMean_point)) = true) (
 q9 (q0u (⟨rv_0.g, Prod.mk (List.eraseIdx rv_0.ins.1 i_0) (List.eraseIdx rv_0.ins.2 i_0), (Prod.mk rv_0.past.1 (List.set rv_0.past.2 i_4 (v_27 ++ ([(⟨t_0, 1⟩ : GCount)] : List GCount)))), (Prod.mk (rv_0.bags.1 ++ [(⟨nv_0, t_0⟩ : GMean_point)]) (List.set (rv_0.bags.2 ++ [v_0.a0]) (rv_0.bags.1.length) v_0.a0)), rv_0.work, rv_0.most, rv_0.outs, rv_0.e⟩ : GMean_runner) nv_0 t_0) (fun v_28 =>
 q0j nv_0 t_0 xv_0 ([v_0.a0, v_28.1] : List (List GItem)) v_28.2)))
 (fun i_6 => q9 (atK rv_0.bags.2 i_6) (fun v_29 =>
 q9 (q0u (⟨rv_0.g, Prod.mk (List.eraseIdx rv_0.ins.1 i_0) (List.eraseIdx rv_0.ins.2 i_0), (Prod.mk rv_0.past.1 (List.set rv_0.past.2 i_4 (v_27 ++ ([(⟨t_0, 1⟩ : GCount)] : List GCount)))), Prod.mk rv_0.bags.1 (List.set rv_0.bags.2 i_6 v_0.a0), rv_0.work, rv_0.most, rv_0.outs, rv_0.e⟩ : GMean_runner) nv_0 t_0) (fun v_30 =>
 q0j nv_0 t_0 xv_0 ([v_0.a0, v_30.1] : List (List GItem)) v_30.2))))))))
 else q0j nv_0 t_0 xv_0 ([v_0.a0, v_0.a1] : List (List GItem)) (⟨rv_0.g, Prod.mk (List.eraseIdx rv_0.ins.1 i_0) (List.eraseIdx rv_0.ins.2 i_0), rv_0.past, rv_0.bags, rv_0.work, rv_0.most, rv_0.outs, rv_0.e⟩ : GMean_runner))))))))
theorem qo9 (rv_0 : GMean_runner) (nv_0 : Int) (t_0 : GTime)  (r : Bool × GMean_runner) (h : q3n rv_0 nv_0 t_0 = some r) : DetS pp 32 [.ptr 0 0, .v (.int .i64 nv_0), .agg (Row.row t_0)] [(0, .box [.sl 1 (enc rv_0.g.Parent), .sl 1 (enc rv_0.g.Bound), .sl 4 (enc rv_0.g.Nodes), .sl 4 (enc rv_0.g.Edges), .mp 1, .mp 2, .mp 3, .v (.int .i64 rv_0.work), .v (.int .i64 rv_0.most), .osl 4 4 (0) (rv_0.outs.length), .v (.int .i64 rv_0.e)]), (1, .con (x8 pp 78 0 (u6 rv_0.ins.1) (enc rv_0.ins.2) none) []), (2, .con (x8 pp 3 1 (u6 rv_0.past.1) (enc rv_0.past.2) none) []), (3, .con (x8 pp 78 2 (u6 rv_0.bags.1) (enc rv_0.bags.2) none) []), (4, .arr 4 (enc rv_0.outs))] 5 (.v (.bool r.1)) [(0, .box [.sl 1 (enc r.2.g.Parent), .sl 1 (enc r.2.g.Bound), .sl 4 (enc r.2.g.Nodes), .sl 4 (enc r.2.g.Edges), .mp 1, .mp 2, .mp 3, .v (.int .i64 r.2.work), .v (.int .i64 r.2.most), .osl 5 4 (0) (r.2.outs.length), .v (.int .i64 r.2.e)]), (1, .con (x8 pp 78 0 (u6 r.2.ins.1) (enc r.2.ins.2) none) []), (2, .con (x8 pp 3 1 (u6 r.2.past.1) (enc r.2.past.2) none) []), (3, .con (x8 pp 78 2 (u6 r.2.bags.1) (enc r.2.bags.2) none) []), (5, .arr 4 (enc r.2.outs))] 6 := by
  unfold DetS; refine Spec.of_wp Tryz.func32 rfl (by kernel_rfl) (by kernel_rfl) ?_; rw [q3n] at h; refine sgW fun _ Q1 => ?_; refine wv ?_; simp only [go_sem]; refine y5 Q1 ?_; refine sgW fun _ Q2 => ?_; refine q91 h (fun hm_0 h => ?_) (fun i_0 hm_0 h => ?_)
  ·
    obtain ⟨g_0, h⟩ := q09 h; have hn_0 : ¬ (Value.agg ⟨[.int .i64 nv_0, .int .i64 t_0.D, .int .i64 t_0.C.a0, .int .i64 t_0.C.a1, .int .i64 t_0.C.a2, .int .i64 t_0.C.a3]⟩) ∈ u6 rv_0.ins.1 := qg9 hm_0; have hk_0 : ∃ l, keyOf pp 78 (Value.agg ⟨[.int .i64 nv_0, .int .i64 t_0.D, .int .i64 t_0.C.a0, .int .i64 t_0.C.a1, .int .i64 t_0.C.a2, .int .i64 t_0.C.a3]⟩) = some l := z0x ((⟨nv_0, t_0⟩ : GMean_point)) g_0; refine q7e ?_; refine wv ?_; refine q07 ?_; refine j8g ?_; simp only [go_sem, q4a, hn_0, hk_0]; refine q27 ?_; refine y5 Q2 ?_; refine sgW fun _ Q3 => ?_; refine sgW fun _ Q4 => ?_; refine wv ?_; simp only [go_sem]; refine y5 Q4 ?_; refine zq0 (by (simp only [go_sem]; done)) ?_; refine sgW fun _ Q5 => ?_; refine wv ?_; simp only [go_sem]; refine y5 Q5 ?_; refine wv ?_; refine q02 (ql3 Q3 ?_); simp only [go_sem]; obtain rfl := Option.some.inj h; refine q1s [some 4] ?_; simp only [go_sem, Le] <;> (repeat' apply And.intro) <;> (try with_reducible refine q03 ?_) <;> first | omega | (simp [go_sem]; done)
  ·
    obtain ⟨v_0, ev_0, h⟩ := z8 h; have hk_1 : (u6 rv_0.ins.1)[i_0]? = some (Value.agg ⟨[.int .i64 nv_0, .int .i64 t_0.D, .int .i64 t_0.C.a0, .int .i64 t_0.C.a1, .int .i64 t_0.C.a2, .int .i64 t_0.C.a3]⟩) := qg8 hm_0; refine reW (fun _ _ _ _ H => H.openM0 (id := 1) (i := i_0) (r := [.sl 3 (enc v_0.a0), .sl 3 (enc v_0.a1)]) rfl (qz0 ev_0)) ?_; refine q7e ?_; refine wv ?_; refine q07 ?_; refine j8g ?_; simp only [go_sem, q4a, hk_1]; refine q27 ?_; refine y5 Q2 ?_; refine sgW fun _ Q6 => ?_; refine sgW fun _ Q7 => ?_; refine wv ?_; simp only [go_sem]; refine y5 Q7 ?_; refine q3m (b := (!(rv_0.e == 0))) (by (simp only [go_sem]; done)) (fun hb_0 => ?_) (fun hb_0 => ?_)
    ·
      replace h := q44 h hb_0; simp only [bool_to_prop] at hb_0; refine sgW fun _ Q8 => ?_; refine wv ?_; simp only [go_sem]; refine y5 Q8 ?_; have rm_0 : enc rv_0.ins.2 = (enc rv_0.ins.2).set i_0 [.sl 3 (enc v_0.a0), .sl 3 (enc v_0.a1)] := z5q ev_0; refine reW (fun _ _ _ _ H => H.closeM0n (id := 1) (id2 := 6) (r := [.sl 3 (enc v_0.a0), .sl 3 (enc v_0.a1)]) [.sl 3 (enc v_0.a0), .sl 3 (enc v_0.a1)] rfl rfl rfl ⟨.inl rfl, .inl rfl, trivial⟩ (R' := enc rv_0.ins.2) rm_0) ?_; refine wv ?_; refine q02 (ql3 Q6 ?_); simp only [go_sem]; obtain rfl := Option.some.inj h; refine q1s [some 4] ?_; simp only [go_sem, Le] <;> (repeat' apply And.intro) <;> (try with_reducible refine q03 ?_) <;> first | omega | (simp [go_sem]; done)
    ·
      replace h := q45 h hb_0; simp only [bool_to_prop] at hb_0; refine wv ?_; refine y7 (y5 Q6 ?_); refine sgW fun _ Q9 => ?_; refine q7e ?_; refine wv ?_; refine q07 ?_; refine j8g ?_; simp only [go_sem]; refine zt0 ?_ rfl rfl rfl rfl trivial trivial rfl rfl z7w q4a rfl hk_1; simp only [go_sem]; refine q27 ?_; refine y5 Q9 ?_; refine sgW fun _ Q10 => ?_; refine wv ?_; obtain ⟨xv_0, ex0, h⟩ := z8 h; obtain ⟨f0a, f0b, f0c⟩ := ql6 ex0; simp only [go_sem, f0a, f0b, f0c]; refine And.intro (by omega) ?_; refine y5 Q10 ?_; refine sgW fun _ Q11 => ?_; refine wv ?_; obtain ⟨g_1, h⟩ := q09 h; simp only [go_sem, g_1]; refine y5 Q11 ?_; refine zi9 (ι := (List (List GItem)) × GMean_runner) (fun ((ports_0, b_0) : (List (List GItem)) × GMean_runner) => (⟨5, [(0, .ptr 0 0), (1, .v (.int .i64 nv_0)), (5, .ptr 5 0), (8, .ptr 6 0), (9, .sl 1 (enc ports_0))], [(0, .box [.sl 1 (enc b_0.g.Parent), .sl 1 (enc b_0.g.Bound), .sl 4 (enc b_0.g.Nodes), .sl 4 (enc b_0.g.Edges), .mp 1, .mp 2, .mp 3, .v (.int .i64 b_0.work), .v (.int .i64 b_0.most), .osl 7 4 (0) (b_0.outs.length), .v (.int .i64 b_0.e)]), (1, .con (x8 pp 78 0 (u6 b_0.ins.1) (enc b_0.ins.2) none) []), (2, .con (x8 pp 3 1 (u6 b_0.past.1) (enc b_0.past.2) none) []), (3, .con (x8 pp 78 2 (u6 b_0.bags.1) (enc b_0.bags.2) none) []), (5, .box (Row.row t_0)), (6, .box (Row.row xv_0)), (7, .arr 4 (enc b_0.outs))], 8, 191⟩ : St)) (fun ((ports_0, b_0) : (List (List GItem)) × GMean_runner) => q0j nv_0 t_0 xv_0 ports_0 b_0 = some r) ?_ ?_
      ·
        intro _ Q49; refine sgW fun _ Q50 => ?_; refine wv ?_; simp only [go_sem]; refine y5 Q50 ?_; refine q3m (b := (xv_0.Kind == 14)) (by (simp only [go_sem]; done)) (fun hb_25 => ?_) (fun hb_25 => ?_)
        ·
          replace h := q44 h hb_25; simp only [bool_to_prop] at hb_25; refine sgW fun _ Q51 => ?_; refine q91 h (fun hm_4 h => ?_) (fun i_4 hm_4 h => ?_)
          ·
            obtain ⟨g_13, h⟩ := q09 h; have hn_4 : ¬ (Value.int .i64 nv_0) ∈ u6 rv_0.past.1 := qg9 hm_4; have hk_8 : ∃ l, keyOf pp 3 (Value.int .i64 nv_0) = some l := j0m nv_0 g_13; refine q7e ?_; refine wv ?_; refine q07 ?_; refine q3g 15 0 0 [0, 1, 3, 7, 0, 0, 32, 96, 224, 0, 992, 0, 2048, 6144, 16352, 32767] [8] [0, 1, 2, 3, 4] [] [14] [] mixed (by kernel_rfl) (of_decide_eq_true (by kernel_rfl)) (by kernel_rfl) (by kernel_rfl) (by rfl) ?_; have rf_19 : [[.v (.int .i64 t_0.D), .v (.int .i64 t_0.C.a0), .v (.int .i64 t_0.C.a1), .v (.int .i64 t_0.C.a2), .v (.int .i64 t_0.C.a3), .v (.int .i64 1)]] = enc ([(⟨t_0, 1⟩ : GCount)] : List GCount) := by rfl
            obtain ⟨g_14, h⟩ := q09 h; simp only [List.length_cons, List.length_nil, Nat.zero_add, List.length_append] at g_14; simp only [go_sem, z0z, hn_4, hk_8, g_14]; simp only [rf_19]; refine qv5 [.sl 6 (enc ([(⟨t_0, 1⟩ : GCount)] : List GCount))] ?_ rfl trivial trivial trivial rfl rfl z7v z0z rfl hk_8 hn_4; have rn_3k : u6 rv_0.past.1 ++ [(Value.int .i64 nv_0)] = u6 (rv_0.past.1 ++ [nv_0]) := qz2 rv_0.past.1 nv_0; have rn_3v : enc rv_0.past.2 ++ [[.sl 6 (enc ([(⟨t_0, 1⟩ : GCount)] : List GCount))]] = enc (rv_0.past.2 ++ [([(⟨t_0, 1⟩ : GCount)] : List GCount)]) := (q4x rv_0.past.2 [([(⟨t_0, 1⟩ : GCount)] : List GCount)]).symm; have rn_3l : (u6 (rv_0.past.1 ++ [nv_0]))[rv_0.past.1.length]? = some (Value.int .i64 nv_0) := z08 rv_0.past.1 nv_0; rw [rn_3k, rn_3v, qz1]; simp only [go_sem]; refine q27 ?_; refine y5 Q51 ?_; refine sgW fun _ Q52 => ?_; refine q91 h (fun hm_5 h => ?_) (fun i_5 hm_5 h => ?_)
            ·
              obtain ⟨g_15, h⟩ := q09 h; have hn_5 : ¬ (Value.agg ⟨[.int .i64 nv_0, .int .i64 t_0.D, .int .i64 t_0.C.a0, .int .i64 t_0.C.a1, .int .i64 t_0.C.a2, .int .i64 t_0.C.a3]⟩) ∈ u6 rv_0.bags.1 := qg9 hm_5; have hk_9 : ∃ l, keyOf pp 78 (Value.agg ⟨[.int .i64 nv_0, .int .i64 t_0.D, .int .i64 t_0.C.a0, .int .i64 t_0.C.a1, .int .i64 t_0.C.a2, .int .i64 t_0.C.a3]⟩) = some l := z0x ((⟨nv_0, t_0⟩ : GMean_point)) g_15; refine q7e ?_; refine wv ?_; refine q07 ?_; refine j8g ?_; simp only [go_sem]; refine qv5 [.sl 3 (enc v_0.a0)] ?_ rfl trivial trivial trivial rfl rfl z0q q4a rfl hk_9 hn_5; have rn_4k : u6 rv_0.bags.1 ++ [(Value.agg ⟨[.int .i64 nv_0, .int .i64 t_0.D, .int .i64 t_0.C.a0, .int .i64 t_0.C.a1, .int .i64 t_0.C.a2, .int .i64 t_0.C.a3]⟩)] = u6 (rv_0.bags.1 ++ [(⟨nv_0, t_0⟩ : GMean_point)]) := qz2 rv_0.bags.1 (⟨nv_0, t_0⟩ : GMean_point); have rn_4v : enc rv_0.bags.2 ++ [[.sl 3 (enc v_0.a0)]] = enc (rv_0.bags.2 ++ [v_0.a0]) := (q4x rv_0.bags.2 [v_0.a0]).symm; have rn_4l : (u6 (rv_0.bags.1 ++ [(⟨nv_0, t_0⟩ : GMean_point)]))[rv_0.bags.1.length]? = some (Value.agg ⟨[.int .i64 nv_0, .int .i64 t_0.D, .int .i64 t_0.C.a0, .int .i64 t_0.C.a1, .int .i64 t_0.C.a2, .int .i64 t_0.C.a3]⟩) := z08 rv_0.bags.1 (⟨nv_0, t_0⟩ : GMean_point); rw [rn_4k, rn_4v, qz1]; simp only [go_sem]; have rm_9 : enc (List.set (rv_0.past.2 ++ [([(⟨t_0, 1⟩ : GCount)] : List GCount)]) (rv_0.past.1.length) ([(⟨t_0, 1⟩ : GCount)] : List GCount)) = (enc (rv_0.past.2 ++ [([(⟨t_0, 1⟩ : GCount)] : List GCount)])).set (rv_0.past.1.length) [.sl 6 (enc ([(⟨t_0, 1⟩ : GCount)] : List GCount))] := q7y (rv_0.past.2 ++ [([(⟨t_0, 1⟩ : GCount)] : List GCount)]) (rv_0.past.1.length) ([(⟨t_0, 1⟩ : GCount)] : List GCount); refine q79 (fun _ _ _ _ H => H.closeM1 (id := 2) (id2 := 8) rfl rfl (by simp [q0w]) (R' := enc (List.set (rv_0.past.2 ++ [([(⟨t_0, 1⟩ : GCount)] : List GCount)]) (rv_0.past.1.length) ([(⟨t_0, 1⟩ : GCount)] : List GCount))) rm_9) ?_
              have rm_10 : enc (List.set (rv_0.bags.2 ++ [v_0.a0]) (rv_0.bags.1.length) v_0.a0) = (enc (rv_0.bags.2 ++ [v_0.a0])).set (rv_0.bags.1.length) [.sl 3 (enc v_0.a0)] := q7y (rv_0.bags.2 ++ [v_0.a0]) (rv_0.bags.1.length) v_0.a0; refine q79 (fun _ _ _ _ H => H.closeM2 (id := 3) rfl rfl (R' := enc (List.set (rv_0.bags.2 ++ [v_0.a0]) (rv_0.bags.1.length) v_0.a0)) rm_10) ?_; refine q27 ?_; refine y5 Q52 ?_; refine wv ?_; refine q07 ?_; refine q3g 8 0 0 [0, 1, 3, 7, 0, 0, 0, 112, 255, 511] [0, 1, 2, 3, 4, 9, 10] [0, 1, 2, 3] [] [7] [] mixed (by kernel_rfl) (of_decide_eq_true (by kernel_rfl)) (by kernel_rfl) (by kernel_rfl) (by rfl) ?_; obtain ⟨v_24, ev_24, h⟩ := z8 h; simp only [go_sem]; refine z0a [0, 1, 2, 3, 4] (q39 (⟨rv_0.g, Prod.mk (List.eraseIdx rv_0.ins.1 i_0) (List.eraseIdx rv_0.ins.2 i_0), (Prod.mk (rv_0.past.1 ++ [nv_0]) (List.set (rv_0.past.2 ++ [([(⟨t_0, 1⟩ : GCount)] : List GCount)]) (rv_0.past.1.length) ([(⟨t_0, 1⟩ : GCount)] : List GCount))), (Prod.mk (rv_0.bags.1 ++ [(⟨nv_0, t_0⟩ : GMean_point)]) (List.set (rv_0.bags.2 ++ [v_0.a0]) (rv_0.bags.1.length) v_0.a0)), rv_0.work, rv_0.most, rv_0.outs, rv_0.e⟩ : GMean_runner) nv_0 t_0 v_24 ev_24) rfl ⟨rfl, ⟨rfl, ⟨rfl, ⟨rfl, ⟨rfl, trivial⟩⟩⟩⟩⟩ rfl rfl rfl rfl ?_; have rf_20 : [[.sl 3 (enc v_0.a0)], [.sl 3 (enc v_24.1)]] = enc ([v_0.a0, v_24.1] : List (List GItem)) := by rfl
              simp only [go_sem]; refine x9 Q49 (⟨(([v_0.a0, v_24.1] : List (List GItem)), v_24.2), [some 5, some 7, some 10], ?_, h⟩); simp only [go_sem, Le] <;> (repeat' apply And.intro) <;> (try with_reducible refine q03 ?_) <;> first | omega | (simp [go_sem]; done) | ((try with_reducible refine q03 ?_); (simp [go_sem, enc, q9m]; done))
            ·
              obtain ⟨v_25, ev_25, h⟩ := z8 h; have hk_10 : (u6 rv_0.bags.1)[i_5]? = some (Value.agg ⟨[.int .i64 nv_0, .int .i64 t_0.D, .int .i64 t_0.C.a0, .int .i64 t_0.C.a1, .int .i64 t_0.C.a2, .int .i64 t_0.C.a3]⟩) := qg8 hm_5; refine reW (fun _ _ _ _ H => H.openM2 (id := 3) (i := i_5) (x := .sl 3 (enc v_25)) rfl (qz0 ev_25)) ?_; refine q7e ?_; refine wv ?_; refine q07 ?_; refine j8g ?_; simp only [go_sem]; refine z1h ?_ rfl trivial trivial trivial rfl rfl z0q q4a rfl hk_10; simp only [go_sem]; have rm_11 : enc (List.set (rv_0.past.2 ++ [([(⟨t_0, 1⟩ : GCount)] : List GCount)]) (rv_0.past.1.length) ([(⟨t_0, 1⟩ : GCount)] : List GCount)) = (enc (rv_0.past.2 ++ [([(⟨t_0, 1⟩ : GCount)] : List GCount)])).set (rv_0.past.1.length) [.sl 6 (enc ([(⟨t_0, 1⟩ : GCount)] : List GCount))] := q7y (rv_0.past.2 ++ [([(⟨t_0, 1⟩ : GCount)] : List GCount)]) (rv_0.past.1.length) ([(⟨t_0, 1⟩ : GCount)] : List GCount); refine q79 (fun _ _ _ _ H => H.closeM1 (id := 2) (id2 := 8) rfl rfl (by simp [q0w]) (R' := enc (List.set (rv_0.past.2 ++ [([(⟨t_0, 1⟩ : GCount)] : List GCount)]) (rv_0.past.1.length) ([(⟨t_0, 1⟩ : GCount)] : List GCount))) rm_11) ?_; have rm_12 : enc (List.set rv_0.bags.2 i_5 v_0.a0) = (enc rv_0.bags.2).set i_5 [.sl 3 (enc v_0.a0)] := q7y rv_0.bags.2 i_5 v_0.a0; refine q79 (fun _ _ _ _ H => H.closeM2 (id := 3) rfl rfl (R' := enc (List.set rv_0.bags.2 i_5 v_0.a0)) rm_12) ?_; refine q27 ?_; refine y5 Q52 ?_; refine wv ?_; refine q07 ?_; refine q3g 8 0 0 [0, 1, 3, 7, 0, 0, 0, 112, 255, 511] [0, 1, 2, 3, 4, 9, 10] [0, 1, 2, 3] [] [7] [] mixed (by kernel_rfl) (of_decide_eq_true (by kernel_rfl)) (by kernel_rfl) (by kernel_rfl) (by rfl) ?_; obtain ⟨v_26, ev_26, h⟩ := z8 h; simp only [go_sem]
              refine z0a [0, 1, 2, 3, 4] (q39 (⟨rv_0.g, Prod.mk (List.eraseIdx rv_0.ins.1 i_0) (List.eraseIdx rv_0.ins.2 i_0), (Prod.mk (rv_0.past.1 ++ [nv_0]) (List.set (rv_0.past.2 ++ [([(⟨t_0, 1⟩ : GCount)] : List GCount)]) (rv_0.past.1.length) ([(⟨t_0, 1⟩ : GCount)] : List GCount))), Prod.mk rv_0.bags.1 (List.set rv_0.bags.2 i_5 v_0.a0), rv_0.work, rv_0.most, rv_0.outs, rv_0.e⟩ : GMean_runner) nv_0 t_0 v_26 ev_26) rfl ⟨rfl, ⟨rfl, ⟨rfl, ⟨rfl, ⟨rfl, trivial⟩⟩⟩⟩⟩ rfl rfl rfl rfl ?_; have rf_21 : [[.sl 3 (enc v_0.a0)], [.sl 3 (enc v_26.1)]] = enc ([v_0.a0, v_26.1] : List (List GItem)) := by rfl
              simp only [go_sem]; refine x9 Q49 (⟨(([v_0.a0, v_26.1] : List (List GItem)), v_26.2), [some 5, some 7, some 10], ?_, h⟩); simp only [go_sem, Le] <;> (repeat' apply And.intro) <;> (try with_reducible refine q03 ?_) <;> first | omega | (simp [go_sem]; done) | ((try with_reducible refine q03 ?_); (simp [go_sem, enc, q9m]; done))
          ·
            obtain ⟨v_27, ev_27, h⟩ := z8 h; have hk_11 : (u6 rv_0.past.1)[i_4]? = some (Value.int .i64 nv_0) := qg8 hm_4; refine reW (fun _ _ _ _ H => H.openM1 (id := 2) (i := i_4) (isz := 6) (xs := enc v_27) rfl (qz0 ev_27)) ?_; simp only [q0w]; refine q7e ?_; refine wv ?_; refine q07 ?_; refine q3g 15 0 0 [0, 1, 3, 7, 0, 0, 32, 96, 224, 0, 992, 0, 2048, 6144, 16352, 32767] [8, 9] [0, 1, 2, 3, 4] [] [14] [] mixed (by kernel_rfl) (of_decide_eq_true (by kernel_rfl)) (by kernel_rfl) (by kernel_rfl) (by rfl) ?_; have rf_22 : [[.v (.int .i64 t_0.D), .v (.int .i64 t_0.C.a0), .v (.int .i64 t_0.C.a1), .v (.int .i64 t_0.C.a2), .v (.int .i64 t_0.C.a3), .v (.int .i64 1)]] = enc ([(⟨t_0, 1⟩ : GCount)] : List GCount) := by rfl
            obtain ⟨g_16, h⟩ := q09 h; simp only [List.length_cons, List.length_nil, Nat.zero_add, List.length_append] at g_16; have rf_23 : enc v_27 ++ [[.v (.int .i64 t_0.D), .v (.int .i64 t_0.C.a0), .v (.int .i64 t_0.C.a1), .v (.int .i64 t_0.C.a2), .v (.int .i64 t_0.C.a3), .v (.int .i64 1)]] = enc (v_27 ++ ([(⟨t_0, 1⟩ : GCount)] : List GCount)) := by exact (q4x v_27 ([(⟨t_0, 1⟩ : GCount)] : List GCount)).symm
            simp only [go_sem, z0z, hk_11, g_16, rf_23]; simp only [rf_22]; refine z1h ?_ rfl trivial trivial trivial rfl rfl z7v z0z rfl hk_11; simp only [go_sem]; refine q27 ?_; refine y5 Q51 ?_; refine sgW fun _ Q53 => ?_; refine q91 h (fun hm_6 h => ?_) (fun i_6 hm_6 h => ?_)
            ·
              obtain ⟨g_17, h⟩ := q09 h; have hn_6 : ¬ (Value.agg ⟨[.int .i64 nv_0, .int .i64 t_0.D, .int .i64 t_0.C.a0, .int .i64 t_0.C.a1, .int .i64 t_0.C.a2, .int .i64 t_0.C.a3]⟩) ∈ u6 rv_0.bags.1 := qg9 hm_6; have hk_12 : ∃ l, keyOf pp 78 (Value.agg ⟨[.int .i64 nv_0, .int .i64 t_0.D, .int .i64 t_0.C.a0, .int .i64 t_0.C.a1, .int .i64 t_0.C.a2, .int .i64 t_0.C.a3]⟩) = some l := z0x ((⟨nv_0, t_0⟩ : GMean_point)) g_17; refine q7e ?_; refine wv ?_; refine q07 ?_; refine j8g ?_; simp only [go_sem]; refine qv5 [.sl 3 (enc v_0.a0)] ?_ rfl trivial trivial trivial rfl rfl z0q q4a rfl hk_12 hn_6; have rn_5k : u6 rv_0.bags.1 ++ [(Value.agg ⟨[.int .i64 nv_0, .int .i64 t_0.D, .int .i64 t_0.C.a0, .int .i64 t_0.C.a1, .int .i64 t_0.C.a2, .int .i64 t_0.C.a3]⟩)] = u6 (rv_0.bags.1 ++ [(⟨nv_0, t_0⟩ : GMean_point)]) := qz2 rv_0.bags.1 (⟨nv_0, t_0⟩ : GMean_point); have rn_5v : enc rv_0.bags.2 ++ [[.sl 3 (enc v_0.a0)]] = enc (rv_0.bags.2 ++ [v_0.a0]) := (q4x rv_0.bags.2 [v_0.a0]).symm; have rn_5l : (u6 (rv_0.bags.1 ++ [(⟨nv_0, t_0⟩ : GMean_point)]))[rv_0.bags.1.length]? = some (Value.agg ⟨[.int .i64 nv_0, .int .i64 t_0.D, .int .i64 t_0.C.a0, .int .i64 t_0.C.a1, .int .i64 t_0.C.a2, .int .i64 t_0.C.a3]⟩) := z08 rv_0.bags.1 (⟨nv_0, t_0⟩ : GMean_point); rw [rn_5k, rn_5v, qz1]; simp only [go_sem]; have rm_13 : enc (List.set rv_0.past.2 i_4 (v_27 ++ ([(⟨t_0, 1⟩ : GCount)] : List GCount))) = (enc rv_0.past.2).set i_4 [.sl 6 (enc (v_27 ++ ([(⟨t_0, 1⟩ : GCount)] : List GCount)))] := q7y rv_0.past.2 i_4 (v_27 ++ ([(⟨t_0, 1⟩ : GCount)] : List GCount)); refine q79 (fun _ _ _ _ H => H.closeM1 (id := 2) (id2 := 9) rfl rfl (by simp [q0w]) (R' := enc (List.set rv_0.past.2 i_4 (v_27 ++ ([(⟨t_0, 1⟩ : GCount)] : List GCount)))) rm_13) ?_; have rm_14 : enc (List.set (rv_0.bags.2 ++ [v_0.a0]) (rv_0.bags.1.length) v_0.a0) = (enc (rv_0.bags.2 ++ [v_0.a0])).set (rv_0.bags.1.length) [.sl 3 (enc v_0.a0)] := q7y (rv_0.bags.2 ++ [v_0.a0]) (rv_0.bags.1.length) v_0.a0
              refine q79 (fun _ _ _ _ H => H.closeM2 (id := 3) rfl rfl (R' := enc (List.set (rv_0.bags.2 ++ [v_0.a0]) (rv_0.bags.1.length) v_0.a0)) rm_14) ?_; refine q27 ?_; refine y5 Q53 ?_; refine wv ?_; refine q07 ?_; refine q3g 8 0 0 [0, 1, 3, 7, 0, 0, 0, 112, 255, 511] [0, 1, 2, 3, 4, 10, 11] [0, 1, 2, 3] [] [7] [] mixed (by kernel_rfl) (of_decide_eq_true (by kernel_rfl)) (by kernel_rfl) (by kernel_rfl) (by rfl) ?_; obtain ⟨v_28, ev_28, h⟩ := z8 h; simp only [go_sem]; refine z0a [0, 1, 2, 3, 4] (q39 (⟨rv_0.g, Prod.mk (List.eraseIdx rv_0.ins.1 i_0) (List.eraseIdx rv_0.ins.2 i_0), (Prod.mk rv_0.past.1 (List.set rv_0.past.2 i_4 (v_27 ++ ([(⟨t_0, 1⟩ : GCount)] : List GCount)))), (Prod.mk (rv_0.bags.1 ++ [(⟨nv_0, t_0⟩ : GMean_point)]) (List.set (rv_0.bags.2 ++ [v_0.a0]) (rv_0.bags.1.length) v_0.a0)), rv_0.work, rv_0.most, rv_0.outs, rv_0.e⟩ : GMean_runner) nv_0 t_0 v_28 ev_28) rfl ⟨rfl, ⟨rfl, ⟨rfl, ⟨rfl, ⟨rfl, trivial⟩⟩⟩⟩⟩ rfl rfl rfl rfl ?_; have rf_24 : [[.sl 3 (enc v_0.a0)], [.sl 3 (enc v_28.1)]] = enc ([v_0.a0, v_28.1] : List (List GItem)) := by rfl
              simp only [go_sem]; refine x9 Q49 (⟨(([v_0.a0, v_28.1] : List (List GItem)), v_28.2), [some 5, some 7, some 11], ?_, h⟩); simp only [go_sem, Le] <;> (repeat' apply And.intro) <;> (try with_reducible refine q03 ?_) <;> first | omega | (simp [go_sem]; done) | ((try with_reducible refine q03 ?_); (simp [go_sem, enc, q9m]; done))
            ·
              obtain ⟨v_29, ev_29, h⟩ := z8 h; have hk_13 : (u6 rv_0.bags.1)[i_6]? = some (Value.agg ⟨[.int .i64 nv_0, .int .i64 t_0.D, .int .i64 t_0.C.a0, .int .i64 t_0.C.a1, .int .i64 t_0.C.a2, .int .i64 t_0.C.a3]⟩) := qg8 hm_6; refine reW (fun _ _ _ _ H => H.openM2 (id := 3) (i := i_6) (x := .sl 3 (enc v_29)) rfl (qz0 ev_29)) ?_; refine q7e ?_; refine wv ?_; refine q07 ?_; refine j8g ?_; simp only [go_sem]; refine z1h ?_ rfl trivial trivial trivial rfl rfl z0q q4a rfl hk_13; simp only [go_sem]; have rm_15 : enc (List.set rv_0.past.2 i_4 (v_27 ++ ([(⟨t_0, 1⟩ : GCount)] : List GCount))) = (enc rv_0.past.2).set i_4 [.sl 6 (enc (v_27 ++ ([(⟨t_0, 1⟩ : GCount)] : List GCount)))] := q7y rv_0.past.2 i_4 (v_27 ++ ([(⟨t_0, 1⟩ : GCount)] : List GCount)); refine q79 (fun _ _ _ _ H => H.closeM1 (id := 2) (id2 := 9) rfl rfl (by simp [q0w]) (R' := enc (List.set rv_0.past.2 i_4 (v_27 ++ ([(⟨t_0, 1⟩ : GCount)] : List GCount)))) rm_15) ?_; have rm_16 : enc (List.set rv_0.bags.2 i_6 v_0.a0) = (enc rv_0.bags.2).set i_6 [.sl 3 (enc v_0.a0)] := q7y rv_0.bags.2 i_6 v_0.a0; refine q79 (fun _ _ _ _ H => H.closeM2 (id := 3) rfl rfl (R' := enc (List.set rv_0.bags.2 i_6 v_0.a0)) rm_16) ?_; refine q27 ?_; refine y5 Q53 ?_; refine wv ?_; refine q07 ?_; refine q3g 8 0 0 [0, 1, 3, 7, 0, 0, 0, 112, 255, 511] [0, 1, 2, 3, 4, 10, 11] [0, 1, 2, 3] [] [7] [] mixed (by kernel_rfl) (of_decide_eq_true (by kernel_rfl)) (by kernel_rfl) (by kernel_rfl) (by rfl) ?_; obtain ⟨v_30, ev_30, h⟩ := z8 h; simp only [go_sem]; refine z0a [0, 1, 2, 3, 4] (q39 (⟨rv_0.g, Prod.mk (List.eraseIdx rv_0.ins.1 i_0) (List.eraseIdx rv_0.ins.2 i_0), (Prod.mk rv_0.past.1 (List.set rv_0.past.2 i_4 (v_27 ++ ([(⟨t_0, 1⟩ : GCount)] : List GCount)))), Prod.mk rv_0.bags.1 (List.set rv_0.bags.2 i_6 v_0.a0), rv_0.work, rv_0.most, rv_0.outs, rv_0.e⟩ : GMean_runner) nv_0 t_0 v_30 ev_30) rfl ⟨rfl, ⟨rfl, ⟨rfl, ⟨rfl, ⟨rfl, trivial⟩⟩⟩⟩⟩ rfl rfl rfl rfl ?_
              have rf_25 : [[.sl 3 (enc v_0.a0)], [.sl 3 (enc v_30.1)]] = enc ([v_0.a0, v_30.1] : List (List GItem)) := by rfl
              simp only [go_sem]; refine x9 Q49 (⟨(([v_0.a0, v_30.1] : List (List GItem)), v_30.2), [some 5, some 7, some 11], ?_, h⟩); simp only [go_sem, Le] <;> (repeat' apply And.intro) <;> (try with_reducible refine q03 ?_) <;> first | omega | (simp [go_sem]; done) | ((try with_reducible refine q03 ?_); (simp [go_sem, enc, q9m]; done))
        ·
          replace h := q45 h hb_25; simp only [bool_to_prop] at hb_25; refine wv ?_; refine y7 (x9 Q49 (⟨(([v_0.a0, v_0.a1] : List (List GItem)), (⟨rv_0.g, Prod.mk (List.eraseIdx rv_0.ins.1 i_0) (List.eraseIdx rv_0.ins.2 i_0), rv_0.past, rv_0.bags, rv_0.work, rv_0.most, rv_0.outs, rv_0.e⟩ : GMean_runner)), [some 5, some 7, some 4], ?_, h⟩)); simp only [go_sem, Le] <;> (repeat' apply And.intro) <;> (try with_reducible refine q03 ?_) <;> first | omega | (simp [go_sem]; done) | ((try with_reducible refine q03 ?_); (exact ⟨_, rfl, Nat.le_refl _, rfl, rfl⟩))
      · rintro ⟨ports_0, b_0⟩ h
        try dsimp only at h
        rw [q0j] at h; refine sgW fun _ Q12 => ?_; refine wv ?_; obtain ⟨v_8, ev_8, h⟩ := z8 h; simp only [go_sem]; refine q5t [] (z7c xv_0 ports_0 v_8 ev_8) (by simp) rfl trivial rfl rfl rfl rfl ?_; simp only [go_sem]; refine y5 Q12 ?_; refine sgW fun _ Q13 => ?_; refine sgW fun _ Q14 => ?_; refine wv ?_; simp only [go_sem]; refine y5 Q14 ?_; refine q3m (b := (!v_8.2)) (by (simp only [go_sem]; done)) (fun hb_2 => ?_) (fun hb_2 => ?_)
        ·
          replace h := q44 h hb_2; simp only [bool_to_prop] at hb_2; refine sgW fun _ Q15 => ?_; refine wv ?_; simp only [go_sem]; refine y5 Q15 ?_; refine sgW fun _ Q16 => ?_; refine wv ?_; simp only [go_sem]; refine y5 Q16 ?_; refine wv ?_; refine q02 (ql3 Q13 ?_); simp only [go_sem]; obtain rfl := Option.some.inj h; refine q1s [some 7] ?_; simp only [go_sem, Le] <;> (repeat' apply And.intro) <;> (try with_reducible refine q03 ?_) <;> first | omega | (simp [go_sem]; done)
        ·
          replace h := q45 h hb_2; simp only [bool_to_prop] at hb_2; refine wv ?_; refine y7 (y5 Q13 ?_); refine zi9 (ι := Unit) (fun (_ : Unit) => (⟨5, [(0, .ptr 0 0), (1, .v (.int .i64 nv_0)), (5, .ptr 5 0), (10, .osl 6 3 (0) (v_8.1.length))], [(0, .box [.sl 1 (enc b_0.g.Parent), .sl 1 (enc b_0.g.Bound), .sl 4 (enc b_0.g.Nodes), .sl 4 (enc b_0.g.Edges), .mp 1, .mp 2, .mp 3, .v (.int .i64 b_0.work), .v (.int .i64 b_0.most), .osl 7 4 (0) (b_0.outs.length), .v (.int .i64 b_0.e)]), (1, .con (x8 pp 78 0 (u6 b_0.ins.1) (enc b_0.ins.2) none) []), (2, .con (x8 pp 3 1 (u6 b_0.past.1) (enc b_0.past.2) none) []), (3, .con (x8 pp 78 2 (u6 b_0.bags.1) (enc b_0.bags.2) none) []), (5, .box (Row.row t_0)), (6, .arr 3 (enc v_8.1)), (7, .arr 4 (enc b_0.outs))], 8, 191⟩ : St)) (fun (_ : Unit) => q4e nv_0 t_0 b_0 v_8 = some r) ?_ ?_
          ·
            intro _ Q36; refine sgW fun _ Q37 => ?_; refine wv ?_; simp only [go_sem]; refine y5 Q37 ?_; refine q3m (b := (xv_0.Kind == 15)) (by (simp only [go_sem]; done)) (fun hb_21 => ?_) (fun hb_21 => ?_)
            ·
              replace h := q44 h hb_21; simp only [bool_to_prop] at hb_21; refine sgW fun _ Q38 => ?_; refine wv ?_; obtain ⟨v_23, ev_23, h⟩ := z8 h; simp only [go_sem]; refine qi9 (s' := (⟨5, [(0, .ptr 0 0), (1, .v (.int .i64 nv_0)), (5, .ptr 5 0)], [(0, .box [.sl 1 (enc b_0.g.Parent), .sl 1 (enc b_0.g.Bound), .sl 4 (enc b_0.g.Nodes), .sl 4 (enc b_0.g.Edges), .mp 1, .mp 2, .mp 3, .v (.int .i64 b_0.work), .v (.int .i64 b_0.most), .osl 7 4 (0) (b_0.outs.length), .v (.int .i64 b_0.e)]), (1, .con (x8 pp 78 0 (u6 b_0.ins.1) (enc b_0.ins.2) none) []), (2, .con (x8 pp 3 1 (u6 b_0.past.1) (enc b_0.past.2) none) []), (3, .con (x8 pp 78 2 (u6 b_0.bags.1) (enc b_0.bags.2) none) []), (5, .box (Row.row t_0)), (6, .box (Row.row xv_0)), (7, .arr 4 (enc b_0.outs))], 8, 191⟩ : St)) (l := [some 5, some 6, some 7]) (args' := [.sl 3 (enc v_8.1)]) ?_ ?_ ?_
              · simp only [go_sem, Le] <;> (repeat' apply And.intro) <;> (try with_reducible refine q03 ?_) <;> first | omega | (simp [go_sem]; done)
              · simp only [go_sem, Le] <;> (repeat' apply And.intro) <;> ((try with_reducible refine q03 ?_); (simp [go_sem]; done))
              refine q5t [] (z8n v_8.1 v_23 ev_23) (by simp) rfl trivial rfl rfl rfl rfl ?_; simp only [go_sem]; refine y5 Q38 ?_; refine sgW fun _ Q39 => ?_; refine sgW fun _ Q40 => ?_; refine wv ?_; simp only [go_sem]; refine y5 Q40 ?_; refine qb9 fun _ Q41 => ?_; refine z3y (ι := Nat × Int × GMean_runner) (fun ((_, t113_3, b_9) : Nat × Int × GMean_runner) => (⟨5, [(0, .ptr 0 0), (1, .v (.int .i64 nv_0)), (5, .ptr 5 0), (111, .osl 6 2 (0) (v_23.1.length)), (112, .v (.int .i64 (v_23.1.length : Int))), (113, .v (.int .i64 t113_3))], [(0, .box [.sl 1 (enc b_9.g.Parent), .sl 1 (enc b_9.g.Bound), .sl 4 (enc b_9.g.Nodes), .sl 4 (enc b_9.g.Edges), .mp 1, .mp 2, .mp 3, .v (.int .i64 b_9.work), .v (.int .i64 b_9.most), .osl 7 4 (0) (b_9.outs.length), .v (.int .i64 b_9.e)]), (1, .con (x8 pp 78 0 (u6 b_9.ins.1) (enc b_9.ins.2) none) []), (2, .con (x8 pp 3 1 (u6 b_9.past.1) (enc b_9.past.2) none) []), (3, .con (x8 pp 78 2 (u6 b_9.bags.1) (enc b_9.bags.2) none) []), (5, .box (Row.row t_0)), (6, .arr 2 (enc v_23.1)), (7, .arr 4 (enc b_9.outs))], 8, 191⟩ : St)) (fun ((n_, t113_3, b_9) : Nat × Int × GMean_runner) => d9 (q2w nv_0 t_0 v_23) n_ (t113_3, b_9) = some r) (fun p => p.1) (rounds, 0, b_0) [some 5, some 8, some 7] ?_ h ?_
              · simp only [go_sem, Le] <;> (repeat' apply And.intro) <;> (try with_reducible refine q03 ?_) <;> first | omega | (simp [go_sem]; done)
              · rintro ⟨n_5, t113_3, b_9⟩ h _ Q42
                dsimp only at h; replace h := q9o h; obtain ⟨m_5, rfl, h⟩ := h; rw [q2w] at h; refine sgW fun _ Q43 => ?_; refine wv ?_; simp only [go_sem]; refine y5 Q43 ?_; refine sgW fun _ Q44 => ?_; refine q3m (b := (decide (t113_3 < (v_23.1.length : Int)))) (by (simp only [go_sem]; done)) (fun hb_24 => ?_) (fun hb_24 => ?_)
                ·
                  replace h := q44 h hb_24; simp only [bool_to_prop] at hb_24; refine wv ?_; refine y7 (y5 Q44 ?_); refine sgW fun _ Q45 => ?_; refine qb9 fun _ Q46 => ?_; refine sgW fun _ Q47 => ?_; refine wv ?_; obtain ⟨xv_12, ex12, h⟩ := z8 h; obtain ⟨f12a, f12b, f12c⟩ := ql6 ex12; simp only [go_sem, f12a, f12b, f12c]; refine And.intro (by omega) ?_; refine y5 Q47 ?_; refine wv ?_; refine q07 ?_; refine q3g 13 0 0 [0, 0, 2, 6, 14, 0, 0, 64, 192, 0, 992, 2016, 4094, 8191, 16383, 32767] [7, 9] [0] [] [12] [] mixed (by kernel_rfl) (of_decide_eq_true (by kernel_rfl)) (by kernel_rfl) (by kernel_rfl) (by rfl) ?_; have rf_17 : [[.v (.int .i64 nv_0), .v (.int .i64 t_0.C.a0), .v (.int .i64 xv_12.K), .v (.int .i64 xv_12.V)]] = enc ([(⟨nv_0, t_0.C.a0, xv_12⟩ : GOut)] : List GOut) := by rfl
                  obtain ⟨g_12, h⟩ := q09 h; simp only [List.length_cons, List.length_nil, Nat.zero_add, List.length_append] at g_12; have rf_18 : enc b_9.outs ++ [[.v (.int .i64 nv_0), .v (.int .i64 t_0.C.a0), .v (.int .i64 xv_12.K), .v (.int .i64 xv_12.V)]] = enc (b_9.outs ++ ([(⟨nv_0, t_0.C.a0, xv_12⟩ : GOut)] : List GOut)) := by exact (q4x b_9.outs ([(⟨nv_0, t_0.C.a0, xv_12⟩ : GOut)] : List GOut)).symm
                  simp only [go_sem, g_12, rf_18]; simp only [rf_17]; refine q04 Q46 (y5 Q45 ?_); refine wv ?_; simp only [go_sem]; refine x9 Q42 (⟨(m_5, i64.wrap (t113_3 + 1), (⟨b_9.g, b_9.ins, b_9.past, b_9.bags, b_9.work, b_9.most, (b_9.outs ++ ([(⟨nv_0, t_0.C.a0, xv_12⟩ : GOut)] : List GOut)), b_9.e⟩ : GMean_runner)), [some 5, some 6, some 9], ?_, h, Nat.lt_succ_self _⟩); simp only [go_sem, Le] <;> (repeat' apply And.intro) <;> (try with_reducible refine q03 ?_) <;> first | omega | (simp [go_sem]; done)
                ·
                  replace h := q45 h hb_24; simp only [bool_to_prop] at hb_24; refine wv ?_; refine q0s (qm2 Q44 ?_); refine q0t Q42 (q0k Q41 (y5 Q39 ?_)); refine sgW fun _ Q48 => ?_; refine wv ?_; simp only [go_sem]; refine y5 Q48 ?_; refine wv ?_; refine q02 (q2o Q36 ?_); simp only [go_sem]; obtain rfl := Option.some.inj h; refine q1s [some 7] ?_; simp only [go_sem, Le] <;> (repeat' apply And.intro) <;> (try with_reducible refine q03 ?_) <;> first | omega | (simp [go_sem]; done)
            ·
              replace h := q45 h hb_21; simp only [bool_to_prop] at hb_21; refine wv ?_; refine y7 (x9 Q36 (⟨(), [some 5, some 8, some 7], ?_, h⟩)); simp only [go_sem, Le] <;> (repeat' apply And.intro) <;> (try with_reducible refine q03 ?_) <;> first | omega | (simp [go_sem]; done)
          · rintro ⟨⟩ h
            try dsimp only at h
            rw [q4e] at h; refine sgW fun _ Q17 => ?_; refine wv ?_; obtain ⟨v_10, ev_10, h⟩ := z8 h; simp only [go_sem]; refine q5t [0, 1, 2, 3, 7] (qn4 b_0 nv_0 t_0 v_10 ev_10) (by simp) rfl ⟨rfl, ⟨rfl, ⟨rfl, ⟨rfl, ⟨rfl, trivial⟩⟩⟩⟩⟩ rfl rfl rfl rfl ?_; simp only [go_sem]; refine y5 Q17 ?_; refine sgW fun _ Q18 => ?_; refine sgW fun _ Q19 => ?_; refine wv ?_; simp only [go_sem]; refine y5 Q19 ?_; refine q3m (b := ((!v_10.2.1) || ((v_8.1.length : Int) == 0))) (by (simp only [go_sem]; done)) (fun hb_7 => ?_) (fun hb_7 => ?_)
            ·
              replace h := q44 h hb_7; simp only [bool_to_prop] at hb_7; refine sgW fun _ Q20 => ?_; refine wv ?_; simp only [go_sem]; refine y5 Q20 ?_; refine wv ?_; refine q02 (ql3 Q18 ?_); simp only [go_sem]; obtain rfl := Option.some.inj h; refine q1s [some 8] ?_; simp only [go_sem, Le] <;> (repeat' apply And.intro) <;> (try with_reducible refine q03 ?_) <;> first | omega | (simp [go_sem]; done)
            ·
              replace h := q45 h hb_7; simp only [bool_to_prop] at hb_7; refine wv ?_; refine y7 (y5 Q18 ?_); refine zi9 (ι := GMean_runner) (fun (b_5 : GMean_runner) => (⟨5, [(0, .ptr 0 0)], [(0, .box [.sl 1 (enc b_5.g.Parent), .sl 1 (enc b_5.g.Bound), .sl 4 (enc b_5.g.Nodes), .sl 4 (enc b_5.g.Edges), .mp 1, .mp 2, .mp 3, .v (.int .i64 b_5.work), .v (.int .i64 b_5.most), .osl 5 4 (0) (b_5.outs.length), .v (.int .i64 b_5.e)]), (1, .con (x8 pp 78 0 (u6 b_5.ins.1) (enc b_5.ins.2) none) []), (2, .con (x8 pp 3 1 (u6 b_5.past.1) (enc b_5.past.2) none) []), (3, .con (x8 pp 78 2 (u6 b_5.bags.1) (enc b_5.bags.2) none) []), (5, .arr 4 (enc b_5.outs))], 6, 191⟩ : St)) (fun (b_5 : GMean_runner) => q4d b_5 = some r) ?_ ?_
              ·
                intro _ Q25; refine sgW fun _ Q26 => ?_; refine wv ?_; simp only [go_sem]; refine y5 Q26 ?_; refine qb9 fun _ Q27 => ?_; refine z3y (ι := Nat × (List GItem) × Int × GMean_runner) (fun ((_, out_3, t153_3, b_7) : Nat × (List GItem) × Int × GMean_runner) => (⟨5, [(0, .ptr 0 0), (1, .v (.int .i64 nv_0)), (10, .sl 3 (enc out_3)), (16, .ptr 5 0), (151, .sl 4 (enc v_10.2.2.g.Edges)), (152, .v (.int .i64 (v_10.2.2.g.Edges.length : Int))), (153, .v (.int .i64 t153_3))], [(0, .box [.sl 1 (enc b_7.g.Parent), .sl 1 (enc b_7.g.Bound), .sl 4 (enc b_7.g.Nodes), .sl 4 (enc b_7.g.Edges), .mp 1, .mp 2, .mp 3, .v (.int .i64 b_7.work), .v (.int .i64 b_7.most), .osl 6 4 (0) (b_7.outs.length), .v (.int .i64 b_7.e)]), (1, .con (x8 pp 78 0 (u6 b_7.ins.1) (enc b_7.ins.2) none) []), (2, .con (x8 pp 3 1 (u6 b_7.past.1) (enc b_7.past.2) none) []), (3, .con (x8 pp 78 2 (u6 b_7.bags.1) (enc b_7.bags.2) none) []), (5, .box (Row.row v_10.1)), (6, .arr 4 (enc b_7.outs))], 7, 191⟩ : St)) (fun ((n_, out_3, t153_3, b_7) : Nat × (List GItem) × Int × GMean_runner) => d9 (q2x nv_0 v_10) n_ (out_3, t153_3, b_7) = some r) (fun p => p.1) (rounds, v_8.1, 0, v_10.2.2) [some 9, some 8] ?_ h ?_
                · simp only [go_sem, Le] <;> (repeat' apply And.intro) <;> (try with_reducible refine q03 ?_) <;> first | omega | (simp [go_sem]; done)
                · rintro ⟨n_4, out_3, t153_3, b_7⟩ h _ Q28
                  dsimp only at h; replace h := q9o h; obtain ⟨m_4, rfl, h⟩ := h; rw [q2x] at h; refine sgW fun _ Q29 => ?_; refine wv ?_; simp only [go_sem]; refine y5 Q29 ?_; refine sgW fun _ Q30 => ?_; refine q3m (b := (decide (t153_3 < (v_10.2.2.g.Edges.length : Int)))) (by (simp only [go_sem]; done)) (fun hb_19 => ?_) (fun hb_19 => ?_)
                  ·
                    replace h := q44 h hb_19; simp only [bool_to_prop] at hb_19; refine wv ?_; refine y7 (y5 Q30 ?_); refine sgW fun _ Q31 => ?_; refine qb9 fun _ Q32 => ?_; refine sgW fun _ Q33 => ?_; refine wv ?_; obtain ⟨xv_9, ex9, h⟩ := z8 h; obtain ⟨f9a, f9b, f9c⟩ := ql6 ex9; simp only [go_sem, f9a, f9b, f9c]; refine And.intro (by omega) ?_; refine y5 Q33 ?_; refine sgW fun _ Q34 => ?_; refine wv ?_; simp only [go_sem]; refine y5 Q34 ?_; refine q3m (b := (xv_9.From == nv_0)) (by (simp only [go_sem]; done)) (fun hb_20 => ?_) (fun hb_20 => ?_)
                    ·
                      replace h := q44 h hb_20; simp only [bool_to_prop] at hb_20; refine sgW fun _ Q35 => ?_; refine wv ?_; obtain ⟨v_21, ev_21, h⟩ := z8 h; simp only [go_sem]; refine q5t [0, 1, 2, 3, 6] (q8s b_7 xv_9.To xv_9.Port v_10.1 out_3 v_21 ev_21) (by simp) rfl ⟨rfl, ⟨rfl, ⟨rfl, ⟨rfl, ⟨rfl, trivial⟩⟩⟩⟩⟩ rfl rfl rfl rfl ?_; simp only [go_sem]; refine y5 Q35 ?_; refine wv ?_; refine q07 ?_; refine j8g ?_; obtain ⟨v_22, ev_22, h⟩ := z8 h; simp only [go_sem]; refine callq (fun _ => (z8l out_3 v_22 ev_22)) (by rfl) (by rfl) ?_; simp only [go_sem]; refine q04 Q32 (y5 Q31 ?_); refine wv ?_; simp only [go_sem]; refine x9 Q28 (⟨(m_4, out_3, i64.wrap (t153_3 + 1), (⟨v_21.g, v_21.ins, v_21.past, v_21.bags, i64.wrap (v_21.work + v_22), v_21.most, v_21.outs, v_21.e⟩ : GMean_runner)), [some 5, some 8], ?_, h, Nat.lt_succ_self _⟩); simp only [go_sem, Le] <;> (repeat' apply And.intro) <;> (try with_reducible refine q03 ?_) <;> first | omega | (simp [go_sem]; done)
                    ·
                      replace h := q45 h hb_20; simp only [bool_to_prop] at hb_20; refine wv ?_; refine y7 (q04 Q32 (y5 Q31 ?_)); refine wv ?_; simp only [go_sem]; refine x9 Q28 (⟨(m_4, out_3, i64.wrap (t153_3 + 1), b_7), [some 5, some 6], ?_, h, Nat.lt_succ_self _⟩); simp only [go_sem, Le] <;> (repeat' apply And.intro) <;> (try with_reducible refine q03 ?_) <;> first | omega | (simp [go_sem]; done)
                  ·
                    replace h := q45 h hb_19; simp only [bool_to_prop] at hb_19; refine wv ?_; refine q0s (qm2 Q30 ?_); refine q0t Q28 (q0k Q27 (x9 Q25 (⟨b_7, [some 6], ?_, h⟩))); simp only [go_sem, Le] <;> (repeat' apply And.intro) <;> (try with_reducible refine q03 ?_) <;> first | omega | (simp [go_sem]; done)
              · rintro b_5 h
                try dsimp only at h
                rw [q4d] at h; refine sgW fun _ Q21 => ?_; refine sgW fun _ Q22 => ?_; refine wv ?_; refine q07 ?_; refine j8g ?_; simp only [go_sem]; refine y5 Q22 ?_; refine q3m (b := (decide (b_5.most < b_5.work))) (by (simp only [go_sem]; done)) (fun hb_14 => ?_) (fun hb_14 => ?_)
                ·
                  replace h := q44 h hb_14; simp only [bool_to_prop] at hb_14; refine wv ?_; simp only [go_sem]; refine y5 Q21 ?_; refine sgW fun _ Q23 => ?_; refine wv ?_; simp only [go_sem]; refine y5 Q23 ?_; refine wv ?_; refine q02 ?_; simp only [go_sem]; obtain rfl := Option.some.inj h; refine q1s [some 5] ?_; simp only [go_sem, Le] <;> (repeat' apply And.intro) <;> (try with_reducible refine q03 ?_) <;> first | omega | (simp [go_sem]; done)
                ·
                  replace h := q45 h hb_14; simp only [bool_to_prop] at hb_14; refine wv ?_; refine y7 (y5 Q21 ?_); refine sgW fun _ Q24 => ?_; refine wv ?_; simp only [go_sem]; refine y5 Q24 ?_; refine wv ?_; refine q02 ?_; simp only [go_sem]; obtain rfl := Option.some.inj h; refine q1s [some 5] ?_; simp only [go_sem, Le] <;> (repeat' apply And.intro) <;> (try with_reducible refine q03 ?_) <;> first | omega | (simp [go_sem]; done)
def q5v (rv_0 : GMean_runner) (outer_0 : Int) (rec_1 : Int → Option (Bool × GMean_runner)) : Int → Option (Bool × GMean_runner) :=
 fun s_2 =>
 (if (decide (0 ≤ s_2)) = true then (if (s_2 == outer_0) = true then some (true, rv_0)
 else q9 (idx rv_0.g.Parent s_2) (fun xv_2 =>
 rec_1 xv_2))
 else some (false, rv_0))
def q35 (rv_0 : GMean_runner) (s_0 : Int) (outer_0 : Int) : Option (Bool × GMean_runner) :=
 d9 (q5v rv_0 outer_0) rounds s_0
theorem qm1 (rv_0 : GMean_runner) (s_0 : Int) (outer_0 : Int)  (r : Bool × GMean_runner) (h : q35 rv_0 s_0 outer_0 = some r) : DetS pp 29 [.ptr 0 0, .v (.int .i64 s_0), .v (.int .i64 outer_0)] [(0, .box [.sl 1 (enc rv_0.g.Parent), .sl 1 (enc rv_0.g.Bound), .sl 4 (enc rv_0.g.Nodes), .sl 4 (enc rv_0.g.Edges), .mp 1, .mp 2, .mp 3, .v (.int .i64 rv_0.work), .v (.int .i64 rv_0.most), .osl 4 4 (0) (rv_0.outs.length), .v (.int .i64 rv_0.e)]), (1, .con (x8 pp 78 0 (u6 rv_0.ins.1) (enc rv_0.ins.2) none) []), (2, .con (x8 pp 3 1 (u6 rv_0.past.1) (enc rv_0.past.2) none) []), (3, .con (x8 pp 78 2 (u6 rv_0.bags.1) (enc rv_0.bags.2) none) []), (4, .arr 4 (enc rv_0.outs))] 5 (.v (.bool r.1)) [(0, .box [.sl 1 (enc r.2.g.Parent), .sl 1 (enc r.2.g.Bound), .sl 4 (enc r.2.g.Nodes), .sl 4 (enc r.2.g.Edges), .mp 1, .mp 2, .mp 3, .v (.int .i64 r.2.work), .v (.int .i64 r.2.most), .osl 5 4 (0) (r.2.outs.length), .v (.int .i64 r.2.e)]), (1, .con (x8 pp 78 0 (u6 r.2.ins.1) (enc r.2.ins.2) none) []), (2, .con (x8 pp 3 1 (u6 r.2.past.1) (enc r.2.past.2) none) []), (3, .con (x8 pp 78 2 (u6 r.2.bags.1) (enc r.2.bags.2) none) []), (5, .arr 4 (enc r.2.outs))] 6 := by
 refine dtI Tryz.func29 rfl ?_; rw [q35] at h; have F := trivial; refine sM ?_; refine jg fun _ Q2 => ?_; refine w9 fun _ Q3 => ?_; refine q0n h [0, 2] (fun s_2 => ([(1, .v (.int .i64 s_2))], [(0, .box [.sl 1 (enc rv_0.g.Parent), .sl 1 (enc rv_0.g.Bound), .sl 4 (enc rv_0.g.Nodes), .sl 4 (enc rv_0.g.Edges), .mp 1, .mp 2, .mp 3, .v (.int .i64 rv_0.work), .v (.int .i64 rv_0.most), .osl 4 4 (0) (rv_0.outs.length), .v (.int .i64 rv_0.e)]), (1, .con (x8 pp 78 0 (u6 rv_0.ins.1) (enc rv_0.ins.2) none) []), (2, .con (x8 pp 3 1 (u6 rv_0.past.1) (enc rv_0.past.2) none) []), (3, .con (x8 pp 78 2 (u6 rv_0.bags.1) (enc rv_0.bags.2) none) []), (4, .arr 4 (enc rv_0.outs))])) 5 ?_; rintro m_1 s_2 h _ Q4; rw [q5v] at h; exact au
def q1y (around_1 : Bool) (nv_1 : Int) (b_39 : GMean_runner) (rec_1 : (Bool × Int × GMean_runner → Option (Bool × GMean_runner))) (xv_22 : GNode) (b_49 : GTime) : Option (Bool × GMean_runner) :=
 q9 (q3n b_39 nv_1 b_49) (fun v_72 =>
 rec_1 ((around_1 || (v_72.1 && (xv_22.Kind == 12))), i64.wrap (nv_1 + 1), v_72.2))
def q41 (t_0 : GTime) (around_1 : Bool) (nv_1 : Int) (b_39 : GMean_runner) (rec_1 : (Bool × Int × GMean_runner → Option (Bool × GMean_runner))) (xv_22 : GNode) : Option (Bool × GMean_runner) :=
 (if (xv_22.Kind == 10) = true then q9 (qh9 t_0) (fun v_73 =>
 q1y around_1 nv_1 b_39 rec_1 xv_22 v_73.1)
 else q1y around_1 nv_1 b_39 rec_1 xv_22 t_0)
def q63 (self : GMean_runner → Int → Int → Int → GTime → Option (Bool × GMean_runner)) (around_1 : Bool) (nv_1 : Int) (rec_1 : (Bool × Int × GMean_runner → Option (Bool × GMean_runner))) (xv_22 : GNode) (endv_27 : Int) (xv_30 : Int) (rec_5 : Int × GMean_runner × GTime → Option (Bool × GMean_runner)) : Int × GMean_runner × GTime → Option (Bool × GMean_runner) :=
 fun (t25_11, b_55, b_56) =>
 (if (decide (t25_11 < xv_30)) = true then q9 (self b_55 nv_1 endv_27 xv_22.Scope b_56) (fun v_82 =>
 (if (!v_82.1) = true then rec_1 (around_1, endv_27, v_82.2)
 else q9 (qn0 b_56) (fun v_83 =>
 rec_5 (i64.wrap (t25_11 + 1), v_82.2, v_83.1))))
 else rec_1 (around_1, endv_27, b_55))
def q1x (t_0 : GTime) (self : GMean_runner → Int → Int → Int → GTime → Option (Bool × GMean_runner)) (around_1 : Bool) (nv_1 : Int) (rec_1 : (Bool × Int × GMean_runner → Option (Bool × GMean_runner))) (xv_22 : GNode) (endv_27 : Int) (b_52 : GMean_runner) : Option (Bool × GMean_runner) :=
 q9 (qi0 t_0) (fun v_77 =>
 q9 (idx b_52.g.Bound xv_22.Scope) (fun xv_30 =>
 d9 (q63 self around_1 nv_1 rec_1 xv_22 endv_27 xv_30) rounds (0, b_52, v_77.1)))
def q62 (tov_0 : Int) (t_0 : GTime) (self : GMean_runner → Int → Int → Int → GTime → Option (Bool × GMean_runner)) (around_1 : Bool) (nv_1 : Int) (rec_1 : (Bool × Int × GMean_runner → Option (Bool × GMean_runner))) (xv_22 : GNode) (rec_6 : Int × GMean_runner → Option (Bool × GMean_runner)) : Int × GMean_runner → Option (Bool × GMean_runner) :=
 fun (endv_29, b_58) =>
 (if (decide (endv_29 < tov_0)) = true then q9 (idx b_58.g.Nodes endv_29) (fun xv_32 =>
 q9 (q35 b_58 xv_32.Scope xv_22.Scope) (fun v_86 =>
 (if v_86.1 = true then rec_6 (i64.wrap (endv_29 + 1), v_86.2)
 else q1x t_0 self around_1 nv_1 rec_1 xv_22 endv_29 v_86.2)))
 else q1x t_0 self around_1 nv_1 rec_1 xv_22 endv_29 b_58)
def q20 (tov_0 : Int) (scope_0 : Int) (t_0 : GTime) (self : GMean_runner → Int → Int → Int → GTime → Option (Bool × GMean_runner)) (rec_1 : Bool × Int × GMean_runner → Option (Bool × GMean_runner)) : Bool × Int × GMean_runner → Option (Bool × GMean_runner) :=
 fun (around_1, nv_1, b_39) =>
 (if (decide (nv_1 < tov_0)) = true then q9 (idx b_39.g.Nodes nv_1) (fun xv_22 =>
 (if (!(xv_22.Scope == scope_0)) = true then d9 (q62 tov_0 t_0 self around_1 nv_1 rec_1 xv_22) rounds (nv_1, b_39)
 else q41 t_0 around_1 nv_1 b_39 rec_1 xv_22))
 else some (around_1, b_39))
def q2v (self : GMean_runner → Int → Int → Int → GTime → Option (Bool × GMean_runner)) (rv_0 : GMean_runner) (fromv_0 : Int) (tov_0 : Int) (scope_0 : Int) (t_0 : GTime) : Option (Bool × GMean_runner) :=
 d9 (q20 tov_0 scope_0 t_0 self) rounds (false, fromv_0, rv_0)
def q14 : Nat → GMean_runner → Int → Int → Int → GTime → Option (Bool × GMean_runner)
 | 0 => fun _ _ _ _ _ => none
 | n + 1 => q2v (q14 n)
def q9j (rv_0 : GMean_runner) (fromv_0 : Int) (tov_0 : Int) (scope_0 : Int) (t_0 : GTime) : Option (Bool × GMean_runner) := q14 rounds rv_0 fromv_0 tov_0 scope_0 t_0
theorem qk2 (self : GMean_runner → Int → Int → Int → GTime → Option (Bool × GMean_runner)) (Hself : ∀ (rv_0 : GMean_runner) (fromv_0 : Int) (tov_0 : Int) (scope_0 : Int) (t_0 : GTime)  (r : Bool × GMean_runner), self rv_0 fromv_0 tov_0 scope_0 t_0 = some r → DetS pp 19 [.ptr 0 0, .v (.int .i64 fromv_0), .v (.int .i64 tov_0), .v (.int .i64 scope_0), .agg (Row.row t_0)] [(0, .box [.sl 1 (enc rv_0.g.Parent), .sl 1 (enc rv_0.g.Bound), .sl 4 (enc rv_0.g.Nodes), .sl 4 (enc rv_0.g.Edges), .mp 1, .mp 2, .mp 3, .v (.int .i64 rv_0.work), .v (.int .i64 rv_0.most), .osl 4 4 (0) (rv_0.outs.length), .v (.int .i64 rv_0.e)]), (1, .con (x8 pp 78 0 (u6 rv_0.ins.1) (enc rv_0.ins.2) none) []), (2, .con (x8 pp 3 1 (u6 rv_0.past.1) (enc rv_0.past.2) none) []), (3, .con (x8 pp 78 2 (u6 rv_0.bags.1) (enc rv_0.bags.2) none) []), (4, .arr 4 (enc rv_0.outs))] 5 (.v (.bool r.1)) [(0, .box [.sl 1 (enc r.2.g.Parent), .sl 1 (enc r.2.g.Bound), .sl 4 (enc r.2.g.Nodes), .sl 4 (enc r.2.g.Edges), .mp 1, .mp 2, .mp 3, .v (.int .i64 r.2.work), .v (.int .i64 r.2.most), .osl 5 4 (0) (r.2.outs.length), .v (.int .i64 r.2.e)]), (1, .con (x8 pp 78 0 (u6 r.2.ins.1) (enc r.2.ins.2) none) []), (2, .con (x8 pp 3 1 (u6 r.2.past.1) (enc r.2.past.2) none) []), (3, .con (x8 pp 78 2 (u6 r.2.bags.1) (enc r.2.bags.2) none) []), (5, .arr 4 (enc r.2.outs))] 6) (rv_0 : GMean_runner) (fromv_0 : Int) (tov_0 : Int) (scope_0 : Int) (t_0 : GTime)  (r : Bool × GMean_runner) (h : q2v self rv_0 fromv_0 tov_0 scope_0 t_0 = some r) : DetS pp 19 [.ptr 0 0, .v (.int .i64 fromv_0), .v (.int .i64 tov_0), .v (.int .i64 scope_0), .agg (Row.row t_0)] [(0, .box [.sl 1 (enc rv_0.g.Parent), .sl 1 (enc rv_0.g.Bound), .sl 4 (enc rv_0.g.Nodes), .sl 4 (enc rv_0.g.Edges), .mp 1, .mp 2, .mp 3, .v (.int .i64 rv_0.work), .v (.int .i64 rv_0.most), .osl 4 4 (0) (rv_0.outs.length), .v (.int .i64 rv_0.e)]), (1, .con (x8 pp 78 0 (u6 rv_0.ins.1) (enc rv_0.ins.2) none) []), (2, .con (x8 pp 3 1 (u6 rv_0.past.1) (enc rv_0.past.2) none) []), (3, .con (x8 pp 78 2 (u6 rv_0.bags.1) (enc rv_0.bags.2) none) []), (4, .arr 4 (enc rv_0.outs))] 5 (.v (.bool r.1)) [(0, .box [.sl 1 (enc r.2.g.Parent), .sl 1 (enc r.2.g.Bound), .sl 4 (enc r.2.g.Nodes), .sl 4 (enc r.2.g.Edges), .mp 1, .mp 2, .mp 3, .v (.int .i64 r.2.work), .v (.int .i64 r.2.most), .osl 5 4 (0) (r.2.outs.length), .v (.int .i64 r.2.e)]), (1, .con (x8 pp 78 0 (u6 r.2.ins.1) (enc r.2.ins.2) none) []), (2, .con (x8 pp 3 1 (u6 r.2.past.1) (enc r.2.past.2) none) []), (3, .con (x8 pp 78 2 (u6 r.2.bags.1) (enc r.2.bags.2) none) []), (5, .arr 4 (enc r.2.outs))] 6 := by
 refine dtI Tryz.func19 rfl ?_; rw [q2v] at h; have F := trivial; refine sM ?_; refine sM ?_; refine jg fun _ Q3 => ?_; refine sM ?_; refine w9 fun _ Q5 => ?_; refine q0n h [0, 2, 3, 9] (fun x => ([(11, .v (.bool x.1)), (12, .v (.int .i64 x.2.1))], [(0, .box [.sl 1 (enc x.2.2.g.Parent), .sl 1 (enc x.2.2.g.Bound), .sl 4 (enc x.2.2.g.Nodes), .sl 4 (enc x.2.2.g.Edges), .mp 1, .mp 2, .mp 3, .v (.int .i64 x.2.2.work), .v (.int .i64 x.2.2.most), .osl 6 4 (0) (x.2.2.outs.length), .v (.int .i64 x.2.2.e)]), (1, .con (x8 pp 78 0 (u6 x.2.2.ins.1) (enc x.2.2.ins.2) none) []), (2, .con (x8 pp 3 1 (u6 x.2.2.past.1) (enc x.2.2.past.2) none) []), (3, .con (x8 pp 78 2 (u6 x.2.2.bags.1) (enc x.2.2.bags.2) none) []), (5, .box (Row.row t_0)), (6, .arr 4 (enc x.2.2.outs))])) 7 ?_; rintro m_1 ⟨around_1, nv_1, b_39⟩ h _ Q6; rw [q20] at h; refine sg fun _ Q7 => ?_; refine sM ?_; refine sB h (fun _ h => ?_) fun _ h => ?_
 ·
  refine y7 (q8 Q7 (w9 fun _ Q9 => ?_)); refine sg fun _ Q10 => ?_; obtain ⟨xv_22, F, h⟩ := bI F h; simp only [go_sem, F]; refine ai ?_; refine q8 Q10 (q3p (fun (_ : Unit) => q41 t_0 around_1 nv_1 b_39 (d9 (q20 tov_0 scope_0 t_0 self) m_1) xv_22 = some r) [0, 2, 3, 9, 11, 12] (fun _ => ([(13, .ptr 6 0)], [(0, .box [.sl 1 (enc b_39.g.Parent), .sl 1 (enc b_39.g.Bound), .sl 4 (enc b_39.g.Nodes), .sl 4 (enc b_39.g.Edges), .mp 1, .mp 2, .mp 3, .v (.int .i64 b_39.work), .v (.int .i64 b_39.most), .osl 7 4 (0) (b_39.outs.length), .v (.int .i64 b_39.e)]), (1, .con (x8 pp 78 0 (u6 b_39.ins.1) (enc b_39.ins.2) none) []), (2, .con (x8 pp 3 1 (u6 b_39.past.1) (enc b_39.past.2) none) []), (3, .con (x8 pp 78 2 (u6 b_39.bags.1) (enc b_39.bags.2) none) []), (5, .box (Row.row t_0)), (6, .box (Row.row xv_22)), (7, .arr 4 (enc b_39.outs))])) 8 ?_ ?_)
  ·
   intro _ Q16; refine sM ?_; refine sB h (fun _ h => ?_) fun _ h => ?_
   ·
    refine sM ?_; refine q3p (fun ((endv_27, b_52) : Int × GMean_runner) => q1x t_0 self around_1 nv_1 (d9 (q20 tov_0 scope_0 t_0 self) m_1) xv_22 endv_27 b_52 = some r) [0, 2, 3, 9, 11, 12] (fun x => ([(13, .ptr 6 0), (14, .v (.int .i64 x.1))], [(0, .box [.sl 1 (enc x.2.g.Parent), .sl 1 (enc x.2.g.Bound), .sl 4 (enc x.2.g.Nodes), .sl 4 (enc x.2.g.Edges), .mp 1, .mp 2, .mp 3, .v (.int .i64 x.2.work), .v (.int .i64 x.2.most), .osl 7 4 (0) (x.2.outs.length), .v (.int .i64 x.2.e)]), (1, .con (x8 pp 78 0 (u6 x.2.ins.1) (enc x.2.ins.2) none) []), (2, .con (x8 pp 3 1 (u6 x.2.past.1) (enc x.2.past.2) none) []), (3, .con (x8 pp 78 2 (u6 x.2.bags.1) (enc x.2.bags.2) none) []), (5, .box (Row.row t_0)), (6, .box (Row.row xv_22)), (7, .arr 4 (enc x.2.outs))])) 8 ?_ ?_
    ·
     intro _ Q33; refine w9 fun _ Q34 => ?_; refine q0n h [0, 2, 3, 9, 11, 12] (fun x => ([(13, .ptr 6 0), (14, .v (.int .i64 x.1))], [(0, .box [.sl 1 (enc x.2.g.Parent), .sl 1 (enc x.2.g.Bound), .sl 4 (enc x.2.g.Nodes), .sl 4 (enc x.2.g.Edges), .mp 1, .mp 2, .mp 3, .v (.int .i64 x.2.work), .v (.int .i64 x.2.most), .osl 7 4 (0) (x.2.outs.length), .v (.int .i64 x.2.e)]), (1, .con (x8 pp 78 0 (u6 x.2.ins.1) (enc x.2.ins.2) none) []), (2, .con (x8 pp 3 1 (u6 x.2.past.1) (enc x.2.past.2) none) []), (3, .con (x8 pp 78 2 (u6 x.2.bags.1) (enc x.2.bags.2) none) []), (5, .box (Row.row t_0)), (6, .box (Row.row xv_22)), (7, .arr 4 (enc x.2.outs))])) 8 ?_; rintro m_6 ⟨endv_29, b_58⟩ h _ Q35; rw [q62] at h; refine sg fun _ Q36 => ?_; refine sg fun _ Q37 => ?_; refine q07 ?_; refine j8g ?_; simp only [go_sem]; rcases hb_121 : (decide (endv_29 < tov_0)) with _ | _
     · replace h := q45 h hb_121; simp only [go_sem, hb_121]; exact au
     · replace h := q44 h hb_121; obtain ⟨xv_32, F, h⟩ := bI F h; obtain ⟨v_86, ev_86, h⟩ := z8 h; simp only [go_sem, hb_121, F]; refine ai ?_; refine q1o [0, 1, 2, 3, 7] (qm1 b_58 xv_32.Scope xv_22.Scope v_86 ev_86) ?_; simp only [go_sem]; exact au
    ·
     rintro ⟨endv_27, b_52⟩ h
     try dsimp only at h
     rw [q1x] at h; refine sg fun _ Q19 => ?_; simp only [go_sem]; refine q6y Tryz.func30 rfl (by kernel_rfl) (by kernel_rfl) ?_; refine sM ?_; refine sg fun _ Q21 => ?_; simp only [go_sem]; refine q5u h fun v_77 h => ?_; simp only [go_sem]; refine q8 Q21 (sg fun _ Q22 => ?_); obtain ⟨xv_30, F, h⟩ := bI F h; simp only [go_sem, F]; refine ai ?_; refine q8 Q22 (w9 fun _ Q23 => ?_); refine q0n h [0, 1, 2, 3, 24] (fun x => ([(10, .ptr 8 0), (25, .v (.int .i64 x.1))], [(0, .box [.sl 1 (enc x.2.1.g.Parent), .sl 1 (enc x.2.1.g.Bound), .sl 4 (enc x.2.1.g.Nodes), .sl 4 (enc x.2.1.g.Edges), .mp 1, .mp 2, .mp 3, .v (.int .i64 x.2.1.work), .v (.int .i64 x.2.1.most), .osl 9 4 (0) (x.2.1.outs.length), .v (.int .i64 x.2.1.e)]), (1, .con (x8 pp 78 0 (u6 x.2.1.ins.1) (enc x.2.1.ins.2) none) []), (2, .con (x8 pp 3 1 (u6 x.2.1.past.1) (enc x.2.1.past.2) none) []), (3, .con (x8 pp 78 2 (u6 x.2.1.bags.1) (enc x.2.1.bags.2) none) []), (5, .box (Row.row t_0)), (6, .box (Row.row xv_22)), (8, .box (Row.row x.2.2)), (9, .arr 4 (enc x.2.1.outs))])) 10 ?_; rintro m_5 ⟨t25_11, b_55, b_56⟩ h _ Q24; rw [q63] at h; refine sM ?_; refine sg fun _ Q26 => ?_; refine sB h (fun _ h => ?_) fun _ h => ?_
     ·
      refine y7 (q8 Q26 (sg fun _ Q27 => ?_)); refine w9 fun _ Q28 => ?_; refine sg fun _ Q29 => ?_; refine sg fun _ Q30 => ?_; obtain ⟨v_82, ev_82, h⟩ := z8 h; simp only [go_sem]; refine q1o [0, 1, 2, 3, 9] (Hself b_55 nv_1 endv_27 xv_22.Scope b_56 v_82 ev_82) ?_; simp only [go_sem]; refine q8 Q30 (sB h (fun _ h => ?_) fun _ h => ?_)
      ·
       refine q02 (q15 Q29 (q0p Q28 (q15 Q27 (q2o Q24 (q0p Q23 ?_))))); simp only [go_sem]; refine q1p [some 8, some 10] [(0, .box [.sl 1 (enc v_82.2.g.Parent), .sl 1 (enc v_82.2.g.Bound), .sl 4 (enc v_82.2.g.Nodes), .sl 4 (enc v_82.2.g.Edges), .mp 1, .mp 2, .mp 3, .v (.int .i64 v_82.2.work), .v (.int .i64 v_82.2.most), .osl 9 4 (0) (v_82.2.outs.length), .v (.int .i64 v_82.2.e)]), (1, .con (x8 pp 78 0 (u6 v_82.2.ins.1) (enc v_82.2.ins.2) none) []), (2, .con (x8 pp 3 1 (u6 v_82.2.past.1) (enc v_82.2.past.2) none) []), (3, .con (x8 pp 78 2 (u6 v_82.2.bags.1) (enc v_82.2.bags.2) none) []), (5, .box (Row.row t_0)), (6, .box (Row.row xv_22)), (8, .box (Row.row b_56)), (9, .arr 4 (enc v_82.2.outs))] 10 (.tup []) ?_ ?_
       · exact leA
       refine q29 ?_; simp only [go_sem]; exact au
      · exact au
     ·
      refine q0s (q23 Q26 (q0t Q24 (q0k Q23 ?_))); simp only [go_sem]; refine q1p [some 8, some 9] [(0, .box [.sl 1 (enc b_55.g.Parent), .sl 1 (enc b_55.g.Bound), .sl 4 (enc b_55.g.Nodes), .sl 4 (enc b_55.g.Edges), .mp 1, .mp 2, .mp 3, .v (.int .i64 b_55.work), .v (.int .i64 b_55.most), .osl 9 4 (0) (b_55.outs.length), .v (.int .i64 b_55.e)]), (1, .con (x8 pp 78 0 (u6 b_55.ins.1) (enc b_55.ins.2) none) []), (2, .con (x8 pp 3 1 (u6 b_55.past.1) (enc b_55.past.2) none) []), (3, .con (x8 pp 78 2 (u6 b_55.bags.1) (enc b_55.bags.2) none) []), (5, .box (Row.row t_0)), (6, .box (Row.row xv_22)), (8, .box (Row.row b_56)), (9, .arr 4 (enc b_55.outs))] 10 (.tup []) ?_ ?_
      · exact leA
      refine q29 ?_; simp only [go_sem]; exact au
   · exact au
  ·
   rintro ⟨⟩ h
   try dsimp only at h
   rw [q41] at h; refine sM ?_; refine q3p (fun (b_49 : GTime) => q1y around_1 nv_1 b_39 (d9 (q20 tov_0 scope_0 t_0 self) m_1) xv_22 b_49 = some r) [0, 2, 3, 9, 11, 12, 13] (fun b_49 => ([(15, .ptr 7 0)], [(0, .box [.sl 1 (enc b_39.g.Parent), .sl 1 (enc b_39.g.Bound), .sl 4 (enc b_39.g.Nodes), .sl 4 (enc b_39.g.Edges), .mp 1, .mp 2, .mp 3, .v (.int .i64 b_39.work), .v (.int .i64 b_39.most), .osl 8 4 (0) (b_39.outs.length), .v (.int .i64 b_39.e)]), (1, .con (x8 pp 78 0 (u6 b_39.ins.1) (enc b_39.ins.2) none) []), (2, .con (x8 pp 3 1 (u6 b_39.past.1) (enc b_39.past.2) none) []), (3, .con (x8 pp 78 2 (u6 b_39.bags.1) (enc b_39.bags.2) none) []), (5, .box (Row.row t_0)), (6, .box (Row.row xv_22)), (7, .box (Row.row b_49)), (8, .arr 4 (enc b_39.outs))])) 9 ?_ ?_
   · intro _ Q14; exact au
   ·
    rintro b_49 h
    try dsimp only at h
    rw [q1y] at h; refine sg fun _ Q12 => ?_; obtain ⟨v_72, ev_72, h⟩ := z8 h; simp only [go_sem]; refine q1o [0, 1, 2, 3, 8] (qo9 b_39 nv_1 b_49 v_72 ev_72) ?_; simp only [go_sem]; exact au
 · exact au
theorem q7l : ∀ (n : Nat) (rv_0 : GMean_runner) (fromv_0 : Int) (tov_0 : Int) (scope_0 : Int) (t_0 : GTime)  (r : Bool × GMean_runner), q14 n rv_0 fromv_0 tov_0 scope_0 t_0 = some r → DetS pp 19 [.ptr 0 0, .v (.int .i64 fromv_0), .v (.int .i64 tov_0), .v (.int .i64 scope_0), .agg (Row.row t_0)] [(0, .box [.sl 1 (enc rv_0.g.Parent), .sl 1 (enc rv_0.g.Bound), .sl 4 (enc rv_0.g.Nodes), .sl 4 (enc rv_0.g.Edges), .mp 1, .mp 2, .mp 3, .v (.int .i64 rv_0.work), .v (.int .i64 rv_0.most), .osl 4 4 (0) (rv_0.outs.length), .v (.int .i64 rv_0.e)]), (1, .con (x8 pp 78 0 (u6 rv_0.ins.1) (enc rv_0.ins.2) none) []), (2, .con (x8 pp 3 1 (u6 rv_0.past.1) (enc rv_0.past.2) none) []), (3, .con (x8 pp 78 2 (u6 rv_0.bags.1) (enc rv_0.bags.2) none) []), (4, .arr 4 (enc rv_0.outs))] 5 (.v (.bool r.1)) [(0, .box [.sl 1 (enc r.2.g.Parent), .sl 1 (enc r.2.g.Bound), .sl 4 (enc r.2.g.Nodes), .sl 4 (enc r.2.g.Edges), .mp 1, .mp 2, .mp 3, .v (.int .i64 r.2.work), .v (.int .i64 r.2.most), .osl 5 4 (0) (r.2.outs.length), .v (.int .i64 r.2.e)]), (1, .con (x8 pp 78 0 (u6 r.2.ins.1) (enc r.2.ins.2) none) []), (2, .con (x8 pp 3 1 (u6 r.2.past.1) (enc r.2.past.2) none) []), (3, .con (x8 pp 78 2 (u6 r.2.bags.1) (enc r.2.bags.2) none) []), (5, .arr 4 (enc r.2.outs))] 6
  | 0, rv_0, fromv_0, tov_0, scope_0, t_0, r, h => by simp [q14] at h
  | n + 1, rv_0, fromv_0, tov_0, scope_0, t_0, r, h => qk2 (q14 n) (q7l n) rv_0 fromv_0 tov_0 scope_0 t_0  r h
theorem qn3 (rv_0 : GMean_runner) (fromv_0 : Int) (tov_0 : Int) (scope_0 : Int) (t_0 : GTime)  (r : Bool × GMean_runner) (h : q9j rv_0 fromv_0 tov_0 scope_0 t_0 = some r) : DetS pp 19 [.ptr 0 0, .v (.int .i64 fromv_0), .v (.int .i64 tov_0), .v (.int .i64 scope_0), .agg (Row.row t_0)] [(0, .box [.sl 1 (enc rv_0.g.Parent), .sl 1 (enc rv_0.g.Bound), .sl 4 (enc rv_0.g.Nodes), .sl 4 (enc rv_0.g.Edges), .mp 1, .mp 2, .mp 3, .v (.int .i64 rv_0.work), .v (.int .i64 rv_0.most), .osl 4 4 (0) (rv_0.outs.length), .v (.int .i64 rv_0.e)]), (1, .con (x8 pp 78 0 (u6 rv_0.ins.1) (enc rv_0.ins.2) none) []), (2, .con (x8 pp 3 1 (u6 rv_0.past.1) (enc rv_0.past.2) none) []), (3, .con (x8 pp 78 2 (u6 rv_0.bags.1) (enc rv_0.bags.2) none) []), (4, .arr 4 (enc rv_0.outs))] 5 (.v (.bool r.1)) [(0, .box [.sl 1 (enc r.2.g.Parent), .sl 1 (enc r.2.g.Bound), .sl 4 (enc r.2.g.Nodes), .sl 4 (enc r.2.g.Edges), .mp 1, .mp 2, .mp 3, .v (.int .i64 r.2.work), .v (.int .i64 r.2.most), .osl 5 4 (0) (r.2.outs.length), .v (.int .i64 r.2.e)]), (1, .con (x8 pp 78 0 (u6 r.2.ins.1) (enc r.2.ins.2) none) []), (2, .con (x8 pp 3 1 (u6 r.2.past.1) (enc r.2.past.2) none) []), (3, .con (x8 pp 78 2 (u6 r.2.bags.1) (enc r.2.bags.2) none) []), (5, .arr 4 (enc r.2.outs))] 6 := q7l rounds rv_0 fromv_0 tov_0 scope_0 t_0  r h
def q49 (a_0 : Int) (b_0 : Int) (nv_0 : Int) (rec_1 : Int × (List GOut) → Option (List GOut)) : Int × (List GOut) → Option (List GOut) :=
 fun (i_1, a_2) =>
 (if (decide (i_1 < nv_0)) = true then q9 (idx a_2 (i64.wrap (b_0 + i_1))) (fun xv_6 =>
 q9 (idx a_2 (i64.wrap (a_0 + i_1))) (fun xv_7 =>
 q9 (idx (List.set a_2 (Int.toNat (i64.wrap (a_0 + i_1))) xv_6) (i64.wrap (b_0 + i_1))) (fun xv_8 =>
 rec_1 (i64.wrap (i_1 + 1), (List.set (List.set a_2 (Int.toNat (i64.wrap (a_0 + i_1))) xv_6) (Int.toNat (i64.wrap (b_0 + i_1))) xv_7)))))
 else some a_2)
def q11 (data_0 : List GOut) (a_0 : Int) (b_0 : Int) (nv_0 : Int) (cmp_0 : GOut → GOut → Option Int) : Option (List GOut) :=
 d9 (q49 a_0 b_0 nv_0) rounds (0, data_0)
theorem q3t (data_0 : List GOut) (a_0 : Int) (b_0 : Int) (nv_0 : Int) (cmp_0 : GOut → GOut → Option Int) (g_cmp_0 : FuncId) (c_cmp_0 : List AV) (F_cmp_0 : q0b c_cmp_0 = true) (E_cmp_0 : p8 pp g_cmp_0 = true) (H_cmp_0 : ∀ (x0 : GOut) (x1 : GOut) (r : Int), cmp_0 x0 x1 = some r → PureS pp g_cmp_0 ([.agg (Row.row x0), .agg (Row.row x1)] ++ c_cmp_0) 0 (.v (.int .i64 r))) (r : List GOut) (h : q11 data_0 a_0 b_0 nv_0 cmp_0 = some r) : DetS pp 117 [.osl 0 4 (0) (data_0.length), .v (.int .i64 a_0), .v (.int .i64 b_0), .v (.int .i64 nv_0), .clo g_cmp_0 c_cmp_0] [(0, .arr 4 (enc data_0))] 1 (.tup []) [(0, .arr 4 (enc r))] 1 := by
 refine dtI Tryz.func117 rfl ?_; rw [q11] at h; have F := trivial; refine sM ?_; refine w9 fun _ Q2 => ?_; refine q0n h [1, 2, 3] (fun x => ([(0, .osl 0 4 (0) (x.2.length)), (10, .v (.int .i64 x.1))], [(0, .arr 4 (enc x.2))])) 1 ?_; rintro m_1 ⟨i_1, a_2⟩ h _ Q3; rw [q49] at h; refine sg fun _ Q4 => ?_; refine sM ?_; refine sB h (fun _ h => ?_) fun _ h => ?_
 ·
  refine y7 (q8 Q4 (sg fun _ Q6 => ?_)); refine w9 fun _ Q7 => ?_; refine q07 ?_; refine q3g 22 0 0 [0, 0, 0, 6, 0, 0, 0, 96, 0, 0, 0, 1536, 3840, 7936, 0, 0, 0, 98304, 245760, 507904, 1048335, 2096911, 4194303, 8388607] [0] [4, 5, 6, 7] [] [21] [] mixed (by kernel_rfl) (of_decide_eq_true (by kernel_rfl)) (by kernel_rfl) (by kernel_rfl) (by rfl) ?_; obtain ⟨xv_6, F, h⟩ := bI F h; obtain ⟨xv_7, F, h⟩ := bI F h; have rf_4 : (enc a_2).set (Int.toNat (i64.wrap (a_0 + i_1))) [.v (.int .i64 xv_6.Node), .v (.int .i64 xv_6.Epoch), .v (.int .i64 xv_6.Rec.K), .v (.int .i64 xv_6.Rec.V)] = enc (List.set a_2 (Int.toNat (i64.wrap (a_0 + i_1))) xv_6) := by exact qd4 _ _ _
  obtain ⟨xv_8, F, h⟩ := bI F h; have rf_5 : (enc (List.set a_2 (Int.toNat (i64.wrap (a_0 + i_1))) xv_6)).set (Int.toNat (i64.wrap (b_0 + i_1))) [.v (.int .i64 xv_7.Node), .v (.int .i64 xv_7.Epoch), .v (.int .i64 xv_7.Rec.K), .v (.int .i64 xv_7.Rec.V)] = enc (List.set (List.set a_2 (Int.toNat (i64.wrap (a_0 + i_1))) xv_6) (Int.toNat (i64.wrap (b_0 + i_1))) xv_7) := by exact qd4 _ _ _
  simp only [go_sem, rf_4, rf_5, F]; refine ai ?_; refine ai ?_; refine ai ?_; refine ai ?_; refine q04 Q7 (q8 Q6 ?_); simp only [go_sem]; refine x9 Q3 ?_; exact nxC _ h [] leA
 · refine q0s (q23 Q4 (q0t Q3 (q0k Q2 ?_))); simp only [go_sem]; obtain rfl := Option.some.inj h; refine q1s [] ?_; exact leA
def q33 (mv_0 : Int) (cmp_0 : GOut → GOut → Option Int) (i_2 : Int) (a_3 : List GOut) : Option (List GOut) :=
 q9 (q11 a_3 (i64.wrap (mv_0 - i_2)) mv_0 i_2 cmp_0) (fun v_6 =>
 p9 (v_6.length = a_3.length) (
 some v_6))
def q56 (mv_0 : Int) (cmp_0 : GOut → GOut → Option Int) (rec_2 : Int × Int × (List GOut) → Option (List GOut)) : Int × Int × (List GOut) → Option (List GOut) :=
 fun (i_4, j_3, a_5) =>
 (if (!(i_4 == j_3)) = true then (if (decide (j_3 < i_4)) = true then q9 (q11 a_5 (i64.wrap (mv_0 - i_4)) mv_0 j_3 cmp_0) (fun v_11 =>
 p9 (v_11.length = a_5.length) (
 rec_2 (i64.wrap (i_4 - j_3), j_3, v_11)))
 else q9 (q11 a_5 (i64.wrap (mv_0 - i_4)) (i64.wrap ((i64.wrap (mv_0 + j_3)) - i_4)) i_4 cmp_0) (fun v_12 =>
 p9 (v_12.length = a_5.length) (
 rec_2 (i_4, i64.wrap (j_3 - i_4), v_12))))
 else q33 mv_0 cmp_0 i_4 a_5)
def q2j (data_0 : List GOut) (a_0 : Int) (mv_0 : Int) (b_0 : Int) (cmp_0 : GOut → GOut → Option Int) : Option (List GOut) :=
 d9 (q56 mv_0 cmp_0) rounds (i64.wrap (mv_0 - a_0), i64.wrap (b_0 - mv_0), data_0)
theorem qi2 (data_0 : List GOut) (a_0 : Int) (mv_0 : Int) (b_0 : Int) (cmp_0 : GOut → GOut → Option Int) (g_cmp_0 : FuncId) (c_cmp_0 : List AV) (F_cmp_0 : q0b c_cmp_0 = true) (E_cmp_0 : p8 pp g_cmp_0 = true) (H_cmp_0 : ∀ (x0 : GOut) (x1 : GOut) (r : Int), cmp_0 x0 x1 = some r → PureS pp g_cmp_0 ([.agg (Row.row x0), .agg (Row.row x1)] ++ c_cmp_0) 0 (.v (.int .i64 r))) (r : List GOut) (h : q2j data_0 a_0 mv_0 b_0 cmp_0 = some r) : DetS pp 93 [.osl 0 4 (0) (data_0.length), .v (.int .i64 a_0), .v (.int .i64 mv_0), .v (.int .i64 b_0), .clo g_cmp_0 c_cmp_0] [(0, .arr 4 (enc data_0))] 1 (.tup []) [(0, .arr 4 (enc r))] 1 := by
 refine dtI Tryz.func93 rfl ?_; rw [q2j] at h; have F := trivial; refine sM ?_; refine sM ?_; refine q3p (fun ((i_2, a_3) : Int × (List GOut)) => q33 mv_0 cmp_0 i_2 a_3 = some r) [2, 4] (fun x => ([(0, .osl 0 4 (0) (x.2.length)), (10, .v (.int .i64 x.1))], [(0, .arr 4 (enc x.2))])) 1 ?_ ?_
 ·
  intro _ Q3; refine w9 fun _ Q4 => ?_; refine q0n h [2, 4] (fun x => ([(0, .osl 0 4 (0) (x.2.2.length)), (10, .v (.int .i64 x.1)), (11, .v (.int .i64 x.2.1))], [(0, .arr 4 (enc x.2.2))])) 1 ?_; rintro m_2 ⟨i_4, j_3, a_5⟩ h _ Q5; rw [q56] at h; refine sg fun _ Q6 => ?_; refine sM ?_; refine sB h (fun _ h => ?_) fun _ h => ?_
  ·
   refine y7 (q8 Q6 (w9 fun _ Q8 => ?_)); refine sM ?_; refine sB h (fun _ h => ?_) fun _ h => ?_
   · refine sg fun _ Q10 => ?_; obtain ⟨v_11, ev_11, h⟩ := z8 h; simp only [go_sem]; refine q5t [0] (q3t a_5 (i64.wrap (mv_0 - i_4)) mv_0 j_3 cmp_0 g_cmp_0 c_cmp_0 F_cmp_0 E_cmp_0 H_cmp_0 v_11 ev_11) (by simp) (by simp only [q53, q1u, q4h F_cmp_0] <;> rfl) ⟨rfl, trivial⟩ (by simp only [ltL, ltA, q5m F_cmp_0] <;> rfl) rfl rfl rfl ?_; obtain ⟨F, h⟩ := bG F h; simp only [go_sem, F]; refine q8 Q10 ?_; simp only [go_sem]; refine q04 Q8 (x9 Q5 ?_); exact nxC _ h [] leA
   · refine sg fun _ Q11 => ?_; obtain ⟨v_12, ev_12, h⟩ := z8 h; simp only [go_sem]; refine q5t [0] (q3t a_5 (i64.wrap (mv_0 - i_4)) (i64.wrap ((i64.wrap (mv_0 + j_3)) - i_4)) i_4 cmp_0 g_cmp_0 c_cmp_0 F_cmp_0 E_cmp_0 H_cmp_0 v_12 ev_12) (by simp) (by simp only [q53, q1u, q4h F_cmp_0] <;> rfl) ⟨rfl, trivial⟩ (by simp only [ltL, ltA, q5m F_cmp_0] <;> rfl) rfl rfl rfl ?_; obtain ⟨F, h⟩ := bG F h; simp only [go_sem, F]; refine q8 Q11 ?_; simp only [go_sem]; refine q04 Q8 (x9 Q5 ?_); exact nxC _ h [] leA
  · refine q0s (q23 Q6 (q0t Q5 (q0k Q4 (x9 Q3 (⟨(i_4, a_5), [], ?_, h⟩))))); exact leA
 ·
  rintro ⟨i_2, a_3⟩ h
  try dsimp only at h
  rw [q33] at h; obtain ⟨v_6, ev_6, h⟩ := z8 h; simp only [go_sem]; refine q5t [0] (q3t a_3 (i64.wrap (mv_0 - i_2)) mv_0 i_2 cmp_0 g_cmp_0 c_cmp_0 F_cmp_0 E_cmp_0 H_cmp_0 v_6 ev_6) (by simp) (by simp only [q53, q1u, q4h F_cmp_0] <;> rfl) ⟨rfl, trivial⟩ (by simp only [ltL, ltA, q5m F_cmp_0] <;> rfl) rfl rfl rfl ?_; obtain ⟨F, h⟩ := bG F h; simp only [go_sem, F]; obtain rfl := Option.some.inj h; refine q1s [] ?_; exact leA
def q3b (a_0 : Int) (cmp_0 : GOut → GOut → Option Int) (i_1 : Int) (rec_1 : (Int × (List GOut) → Option (List GOut))) (rec_2 : Int × (List GOut) → Option (List GOut)) : Int × (List GOut) → Option (List GOut) :=
 fun (j_5, a_8) =>
 (if (decide (a_0 < j_5)) = true then q9 (idx a_8 j_5) (fun xv_24 =>
 q9 (idx a_8 (i64.wrap (j_5 - 1))) (fun xv_25 =>
 q9 (cmp_0 xv_24 xv_25) (fun v_8 =>
 (if (decide (v_8 < 0)) = true then q9 (idx (List.set a_8 (j_5.toNat) xv_25) (i64.wrap (j_5 - 1))) (fun xv_26 =>
 rec_2 (i64.wrap (j_5 - 1), (List.set (List.set a_8 (j_5.toNat) xv_25) (Int.toNat (i64.wrap (j_5 - 1))) xv_24)))
 else rec_1 (i64.wrap (i_1 + 1), a_8)))))
 else rec_1 (i64.wrap (i_1 + 1), a_8))
def q25 (a_0 : Int) (b_0 : Int) (cmp_0 : GOut → GOut → Option Int) (rec_1 : Int × (List GOut) → Option (List GOut)) : Int × (List GOut) → Option (List GOut) :=
 fun (i_1, a_6) =>
 (if (decide (i_1 < b_0)) = true then d9 (q3b a_0 cmp_0 i_1 rec_1) rounds (i_1, a_6)
 else some a_6)
def q0o (data_0 : List GOut) (a_0 : Int) (b_0 : Int) (cmp_0 : GOut → GOut → Option Int) : Option (List GOut) :=
 d9 (q25 a_0 b_0 cmp_0) rounds (i64.wrap (a_0 + 1), data_0)
theorem q5q (data_0 : List GOut) (a_0 : Int) (b_0 : Int) (cmp_0 : GOut → GOut → Option Int) (g_cmp_0 : FuncId) (c_cmp_0 : List AV) (F_cmp_0 : q0b c_cmp_0 = true) (E_cmp_0 : p8 pp g_cmp_0 = true) (H_cmp_0 : ∀ (x0 : GOut) (x1 : GOut) (r : Int), cmp_0 x0 x1 = some r → PureS pp g_cmp_0 ([.agg (Row.row x0), .agg (Row.row x1)] ++ c_cmp_0) 0 (.v (.int .i64 r))) (r : List GOut) (h : q0o data_0 a_0 b_0 cmp_0 = some r) : DetS pp 61 [.osl 0 4 (0) (data_0.length), .v (.int .i64 a_0), .v (.int .i64 b_0), .clo g_cmp_0 c_cmp_0] [(0, .arr 4 (enc data_0))] 1 (.tup []) [(0, .arr 4 (enc r))] 1 := by
 refine dtI Tryz.func61 rfl ?_; rw [q0o] at h; have F := trivial; refine sM ?_; refine w9 fun _ Q2 => ?_; refine q0n h [1, 2, 3] (fun x => ([(0, .osl 0 4 (0) (x.2.length)), (8, .v (.int .i64 x.1))], [(0, .arr 4 (enc x.2))])) 1 ?_; rintro m_1 ⟨i_1, a_6⟩ h _ Q3; rw [q25] at h; refine sg fun _ Q4 => ?_; refine sM ?_; refine sB h (fun _ h => ?_) fun _ h => ?_
 ·
  refine y7 (q8 Q4 (jg fun _ Q6 => ?_)); refine w9 fun _ Q7 => ?_; refine sM ?_; refine w9 fun _ Q9 => ?_; refine q0n h [1, 2, 3, 8] (fun x => ([(0, .osl 0 4 (0) (x.2.length)), (9, .v (.int .i64 x.1))], [(0, .arr 4 (enc x.2))])) 1 ?_; rintro m_2 ⟨j_5, a_8⟩ h _ Q10; rw [q3b] at h; refine sg fun _ Q11 => ?_; refine sg fun _ Q12 => ?_; refine q07 ?_; refine j8g ?_; simp only [go_sem]; rcases hb_19 : (decide (a_0 < j_5)) with _ | _
  · replace h := q45 h hb_19; simp only [go_sem, hb_19]; refine q8 Q12 (ja0 ?_); refine q0s (q23 Q11 (q0t Q10 (q0k Q9 (q04 Q7 (q8 Q6 ?_))))); simp only [go_sem]; refine x9 Q3 ?_; exact nxC _ h [] leA
  ·
   replace h := q44 h hb_19; obtain ⟨xv_24, F, h⟩ := bI F h; obtain ⟨xv_25, F, h⟩ := bI F h; obtain ⟨v_8, ev_8, h⟩ := z8 h; simp only [go_sem, hb_19, E_cmp_0, F]; refine ai ?_; refine ai ?_; refine q99 (H_cmp_0 xv_24 xv_25 v_8 ev_8) (by rfl) (by simp [go_sem, q0b, q0f, F_cmp_0]) ?_; simp only [go_sem]; refine q8 Q12 (sB h (fun _ h => ?_) fun _ h => ?_)
   ·
    refine y7 (q8 Q11 (sg fun _ Q13 => ?_)); refine w9 fun _ Q14 => ?_; refine q07 ?_; refine q3g 16 0 0 [0, 0, 0, 0, 8, 0, 0, 64, 224, 480, 0, 0, 3072, 7168, 16355, 32739, 65535, 131071] [0] [2, 3, 4] [] [15] [] mixed (by kernel_rfl) (of_decide_eq_true (by kernel_rfl)) (by kernel_rfl) (by kernel_rfl) (by rfl) ?_; have rf_16 : (enc a_8).set (j_5.toNat) [.v (.int .i64 xv_25.Node), .v (.int .i64 xv_25.Epoch), .v (.int .i64 xv_25.Rec.K), .v (.int .i64 xv_25.Rec.V)] = enc (List.set a_8 (j_5.toNat) xv_25) := by exact qd4 _ _ _
    obtain ⟨xv_26, F, h⟩ := bI F h; have rf_17 : (enc (List.set a_8 (j_5.toNat) xv_25)).set (Int.toNat (i64.wrap (j_5 - 1))) [.v (.int .i64 xv_24.Node), .v (.int .i64 xv_24.Epoch), .v (.int .i64 xv_24.Rec.K), .v (.int .i64 xv_24.Rec.V)] = enc (List.set (List.set a_8 (j_5.toNat) xv_25) (Int.toNat (i64.wrap (j_5 - 1))) xv_24) := by exact qd4 _ _ _
    simp only [go_sem, rf_16, rf_17, F]; refine ai ?_; refine ai ?_; refine ai ?_; refine ai ?_; refine q04 Q14 (q8 Q13 ?_); simp only [go_sem]; refine x9 Q10 ?_; exact nxC _ h [] leA
   · refine q0s (q23 Q11 (q0t Q10 (q0k Q9 (q04 Q7 (q8 Q6 ?_))))); simp only [go_sem]; refine x9 Q3 ?_; exact nxC _ h [] leA
 · refine q0s (q23 Q4 (q0t Q3 (q0k Q2 ?_))); simp only [go_sem]; obtain rfl := Option.some.inj h; refine q1s [] ?_; exact leA
def q19 (a_0 : Int) (mv_0 : Int) (b_0 : Int) (cmp_0 : GOut → GOut → Option Int) (self : (List GOut) → Int → Int → Int → (GOut → GOut → Option Int) → Option (List GOut)) (start_3 : Int) (a_6 : List GOut) : Option (List GOut) :=
 (if ((decide ((i64.wrap (q26 .u64 (IntKind.u64.wrap (i64.wrap (a_0 + b_0))) 1)) < (i64.wrap ((i64.wrap ((i64.wrap (q26 .u64 (IntKind.u64.wrap (i64.wrap (a_0 + b_0))) 1)) + mv_0)) - start_3)))) && (decide ((i64.wrap ((i64.wrap ((i64.wrap (q26 .u64 (IntKind.u64.wrap (i64.wrap (a_0 + b_0))) 1)) + mv_0)) - start_3)) < b_0))) = true then q9 (self a_6 (i64.wrap (q26 .u64 (IntKind.u64.wrap (i64.wrap (a_0 + b_0))) 1)) (i64.wrap ((i64.wrap ((i64.wrap (q26 .u64 (IntKind.u64.wrap (i64.wrap (a_0 + b_0))) 1)) + mv_0)) - start_3)) b_0 cmp_0) (fun v_17 =>
 p9 (v_17.length = a_6.length) (
 some v_17))
 else some a_6)
def q1a (a_0 : Int) (mv_0 : Int) (b_0 : Int) (cmp_0 : GOut → GOut → Option Int) (self : (List GOut) → Int → Int → Int → (GOut → GOut → Option Int) → Option (List GOut)) (start_3 : Int) (a_5 : List GOut) : Option (List GOut) :=
 (if ((decide (a_0 < start_3)) && (decide (start_3 < (i64.wrap (q26 .u64 (IntKind.u64.wrap (i64.wrap (a_0 + b_0))) 1))))) = true then q9 (self a_5 a_0 start_3 (i64.wrap (q26 .u64 (IntKind.u64.wrap (i64.wrap (a_0 + b_0))) 1)) cmp_0) (fun v_18 =>
 p9 (v_18.length = a_5.length) (
 q19 a_0 mv_0 b_0 cmp_0 self start_3 v_18))
 else q19 a_0 mv_0 b_0 cmp_0 self start_3 a_5)
def q1t (data_0 : List GOut) (a_0 : Int) (mv_0 : Int) (b_0 : Int) (cmp_0 : GOut → GOut → Option Int) (self : (List GOut) → Int → Int → Int → (GOut → GOut → Option Int) → Option (List GOut)) (start_3 : Int) : Option (List GOut) :=
 (if ((decide (start_3 < mv_0)) && (decide (mv_0 < (i64.wrap ((i64.wrap ((i64.wrap (q26 .u64 (IntKind.u64.wrap (i64.wrap (a_0 + b_0))) 1)) + mv_0)) - start_3))))) = true then q9 (q2j data_0 start_3 mv_0 (i64.wrap ((i64.wrap ((i64.wrap (q26 .u64 (IntKind.u64.wrap (i64.wrap (a_0 + b_0))) 1)) + mv_0)) - start_3)) cmp_0) (fun v_19 =>
 p9 (v_19.length = data_0.length) (
 q1a a_0 mv_0 b_0 cmp_0 self start_3 v_19))
 else q1a a_0 mv_0 b_0 cmp_0 self start_3 data_0)
def q4j (data_0 : List GOut) (a_0 : Int) (mv_0 : Int) (b_0 : Int) (cmp_0 : GOut → GOut → Option Int) (self : (List GOut) → Int → Int → Int → (GOut → GOut → Option Int) → Option (List GOut)) (rec_7 : Int × Int → Option (List GOut)) : Int × Int → Option (List GOut) :=
 fun (start_5, rv_4) =>
 (if (decide (start_5 < rv_4)) = true then q9 (idx data_0 (i64.wrap ((i64.wrap ((i64.wrap ((i64.wrap (q26 .u64 (IntKind.u64.wrap (i64.wrap (a_0 + b_0))) 1)) + mv_0)) - 1)) - (i64.wrap (q26 .u64 (IntKind.u64.wrap (i64.wrap (start_5 + rv_4))) 1))))) (fun xv_52 =>
 q9 (idx data_0 (i64.wrap (q26 .u64 (IntKind.u64.wrap (i64.wrap (start_5 + rv_4))) 1))) (fun xv_53 =>
 q9 (cmp_0 xv_52 xv_53) (fun v_22 =>
 (if (!(decide (v_22 < 0))) = true then rec_7 (i64.wrap ((i64.wrap (q26 .u64 (IntKind.u64.wrap (i64.wrap (start_5 + rv_4))) 1)) + 1), rv_4)
 else rec_7 (start_5, i64.wrap (q26 .u64 (IntKind.u64.wrap (i64.wrap (start_5 + rv_4))) 1))))))
 else q1t data_0 a_0 mv_0 b_0 cmp_0 self start_5)
def q1b (data_0 : List GOut) (a_0 : Int) (mv_0 : Int) (b_0 : Int) (cmp_0 : GOut → GOut → Option Int) (self : (List GOut) → Int → Int → Int → (GOut → GOut → Option Int) → Option (List GOut)) (start_0 : Int) (rv_0 : Int) : Option (List GOut) :=
 d9 (q4j data_0 a_0 mv_0 b_0 cmp_0 self) rounds (start_0, rv_0)
def q2s (data_0 : List GOut) (a_0 : Int) (mv_0 : Int) (b_0 : Int) (cmp_0 : GOut → GOut → Option Int) (self : (List GOut) → Int → Int → Int → (GOut → GOut → Option Int) → Option (List GOut)) : Option (List GOut) :=
 (if (decide ((i64.wrap (q26 .u64 (IntKind.u64.wrap (i64.wrap (a_0 + b_0))) 1)) < mv_0)) = true then q1b data_0 a_0 mv_0 b_0 cmp_0 self (i64.wrap ((i64.wrap ((i64.wrap (q26 .u64 (IntKind.u64.wrap (i64.wrap (a_0 + b_0))) 1)) + mv_0)) - b_0)) (i64.wrap (q26 .u64 (IntKind.u64.wrap (i64.wrap (a_0 + b_0))) 1))
 else q1b data_0 a_0 mv_0 b_0 cmp_0 self a_0 mv_0)
def q4i (i_12 : Int) (rec_9 : Int × (List GOut) → Option (List GOut)) : Int × (List GOut) → Option (List GOut) :=
 fun (k_5, a_8) =>
 (if (decide (i_12 < k_5)) = true then q9 (idx a_8 (i64.wrap (k_5 - 1))) (fun xv_66 =>
 q9 (idx a_8 k_5) (fun xv_67 =>
 q9 (idx (List.set a_8 (k_5.toNat) xv_66) (i64.wrap (k_5 - 1))) (fun xv_68 =>
 rec_9 (i64.wrap (k_5 - 1), (List.set (List.set a_8 (k_5.toNat) xv_66) (Int.toNat (i64.wrap (k_5 - 1))) xv_67)))))
 else some a_8)
def q2r (data_0 : List GOut) (mv_0 : Int) (i_12 : Int) : Option (List GOut) :=
 d9 (q4i i_12) rounds (mv_0, data_0)
def q48 (data_0 : List GOut) (mv_0 : Int) (cmp_0 : GOut → GOut → Option Int) (rec_10 : Int × Int → Option (List GOut)) : Int × Int → Option (List GOut) :=
 fun (i_14, j_11) =>
 (if (decide (i_14 < j_11)) = true then q9 (idx data_0 mv_0) (fun xv_73 =>
 q9 (idx data_0 (i64.wrap (q26 .u64 (IntKind.u64.wrap (i64.wrap (i_14 + j_11))) 1))) (fun xv_74 =>
 q9 (cmp_0 xv_73 xv_74) (fun v_28 =>
 (if (!(decide (v_28 < 0))) = true then rec_10 (i64.wrap ((i64.wrap (q26 .u64 (IntKind.u64.wrap (i64.wrap (i_14 + j_11))) 1)) + 1), j_11)
 else rec_10 (i_14, i64.wrap (q26 .u64 (IntKind.u64.wrap (i64.wrap (i_14 + j_11))) 1))))))
 else q2r data_0 mv_0 i_14)
def q2t (data_0 : List GOut) (a_0 : Int) (mv_0 : Int) (b_0 : Int) (cmp_0 : GOut → GOut → Option Int) (self : (List GOut) → Int → Int → Int → (GOut → GOut → Option Int) → Option (List GOut)) : Option (List GOut) :=
 (if ((i64.wrap (b_0 - mv_0)) == 1) = true then d9 (q48 data_0 mv_0 cmp_0) rounds (a_0, mv_0)
 else q2s data_0 a_0 mv_0 b_0 cmp_0 self)
def q47 (i_17 : Int) (rec_12 : Int × (List GOut) → Option (List GOut)) : Int × (List GOut) → Option (List GOut) :=
 fun (k_7, a_10) =>
 (if (decide (k_7 < (i64.wrap (i_17 - 1)))) = true then q9 (idx a_10 (i64.wrap (k_7 + 1))) (fun xv_87 =>
 q9 (idx a_10 k_7) (fun xv_88 =>
 q9 (idx (List.set a_10 (k_7.toNat) xv_87) (i64.wrap (k_7 + 1))) (fun xv_89 =>
 rec_12 (i64.wrap (k_7 + 1), (List.set (List.set a_10 (k_7.toNat) xv_87) (Int.toNat (i64.wrap (k_7 + 1))) xv_88)))))
 else some a_10)
def q2l (data_0 : List GOut) (a_0 : Int) (i_17 : Int) : Option (List GOut) :=
 d9 (q47 i_17) rounds (a_0, data_0)
def q46 (data_0 : List GOut) (a_0 : Int) (cmp_0 : GOut → GOut → Option Int) (rec_13 : Int × Int → Option (List GOut)) : Int × Int → Option (List GOut) :=
 fun (i_19, j_15) =>
 (if (decide (i_19 < j_15)) = true then q9 (idx data_0 (i64.wrap (q26 .u64 (IntKind.u64.wrap (i64.wrap (i_19 + j_15))) 1))) (fun xv_94 =>
 q9 (idx data_0 a_0) (fun xv_95 =>
 q9 (cmp_0 xv_94 xv_95) (fun v_34 =>
 (if (decide (v_34 < 0)) = true then rec_13 (i64.wrap ((i64.wrap (q26 .u64 (IntKind.u64.wrap (i64.wrap (i_19 + j_15))) 1)) + 1), j_15)
 else rec_13 (i_19, i64.wrap (q26 .u64 (IntKind.u64.wrap (i64.wrap (i_19 + j_15))) 1))))))
 else q2l data_0 a_0 i_19)
def q1v (self : (List GOut) → Int → Int → Int → (GOut → GOut → Option Int) → Option (List GOut)) (data_0 : List GOut) (a_0 : Int) (mv_0 : Int) (b_0 : Int) (cmp_0 : GOut → GOut → Option Int) : Option (List GOut) :=
 (if ((i64.wrap (mv_0 - a_0)) == 1) = true then d9 (q46 data_0 a_0 cmp_0) rounds (mv_0, b_0)
 else q2t data_0 a_0 mv_0 b_0 cmp_0 self)
def q08 : Nat → (List GOut) → Int → Int → Int → (GOut → GOut → Option Int) → Option (List GOut)
 | 0 => fun _ _ _ _ _ => none
 | n + 1 => q1v (q08 n)
def q38 (data_0 : List GOut) (a_0 : Int) (mv_0 : Int) (b_0 : Int) (cmp_0 : GOut → GOut → Option Int) : Option (List GOut) := q08 rounds data_0 a_0 mv_0 b_0 cmp_0
theorem qb2 (self : (List GOut) → Int → Int → Int → (GOut → GOut → Option Int) → Option (List GOut)) (Hself : ∀ (data_0 : List GOut) (a_0 : Int) (mv_0 : Int) (b_0 : Int) (cmp_0 : GOut → GOut → Option Int) (g_cmp_0 : FuncId) (c_cmp_0 : List AV) (F_cmp_0 : q0b c_cmp_0 = true) (E_cmp_0 : p8 pp g_cmp_0 = true) (H_cmp_0 : ∀ (x0 : GOut) (x1 : GOut) (r : Int), cmp_0 x0 x1 = some r → PureS pp g_cmp_0 ([.agg (Row.row x0), .agg (Row.row x1)] ++ c_cmp_0) 0 (.v (.int .i64 r))) (r : List GOut), self data_0 a_0 mv_0 b_0 cmp_0 = some r → DetS pp 62 [.osl 0 4 (0) (data_0.length), .v (.int .i64 a_0), .v (.int .i64 mv_0), .v (.int .i64 b_0), .clo g_cmp_0 c_cmp_0] [(0, .arr 4 (enc data_0))] 1 (.tup []) [(0, .arr 4 (enc r))] 1) (data_0 : List GOut) (a_0 : Int) (mv_0 : Int) (b_0 : Int) (cmp_0 : GOut → GOut → Option Int) (g_cmp_0 : FuncId) (c_cmp_0 : List AV) (F_cmp_0 : q0b c_cmp_0 = true) (E_cmp_0 : p8 pp g_cmp_0 = true) (H_cmp_0 : ∀ (x0 : GOut) (x1 : GOut) (r : Int), cmp_0 x0 x1 = some r → PureS pp g_cmp_0 ([.agg (Row.row x0), .agg (Row.row x1)] ++ c_cmp_0) 0 (.v (.int .i64 r))) (r : List GOut) (h : q1v self data_0 a_0 mv_0 b_0 cmp_0 = some r) : DetS pp 62 [.osl 0 4 (0) (data_0.length), .v (.int .i64 a_0), .v (.int .i64 mv_0), .v (.int .i64 b_0), .clo g_cmp_0 c_cmp_0] [(0, .arr 4 (enc data_0))] 1 (.tup []) [(0, .arr 4 (enc r))] 1 := by
 refine dtI Tryz.func62 rfl ?_; rw [q1v] at h; have F := trivial; refine q3p (fun (_ : Unit) => q2t data_0 a_0 mv_0 b_0 cmp_0 self = some r) [0, 1, 2, 3, 4] (fun _ => ([], [(0, .arr 4 (enc data_0))])) 1 ?_ ?_
 ·
  intro _ Q43; refine sM ?_; refine sB h (fun _ h => ?_) fun _ h => ?_
  ·
   refine sM ?_; refine sM ?_; refine q3p (fun (i_17 : Int) => q2l data_0 a_0 i_17 = some r) [0, 1] (fun i_17 => ([(10, .v (.int .i64 i_17))], [(0, .arr 4 (enc data_0))])) 1 ?_ ?_
   ·
    intro _ Q55; refine w9 fun _ Q56 => ?_; refine q0n h [0, 1, 4] (fun x => ([(10, .v (.int .i64 x.1)), (11, .v (.int .i64 x.2))], [(0, .arr 4 (enc data_0))])) 1 ?_; rintro m_13 ⟨i_19, j_15⟩ h _ Q57; rw [q46] at h; refine sg fun _ Q58 => ?_; refine sM ?_; refine sB h (fun _ h => ?_) fun _ h => ?_
    ·
     refine y7 (q8 Q58 (w9 fun _ Q60 => ?_)); refine sM ?_; refine sg fun _ Q62 => ?_; refine q07 ?_; refine j8g ?_; obtain ⟨xv_94, F, h⟩ := bI F h; obtain ⟨xv_95, F, h⟩ := bI F h; obtain ⟨v_34, ev_34, h⟩ := z8 h; simp only [go_sem, E_cmp_0, F]; refine ai ?_; refine ai ?_; refine q99 (H_cmp_0 xv_94 xv_95 v_34 ev_34) (by rfl) (by simp [go_sem, q0b, q0f, F_cmp_0]) ?_; simp only [go_sem]; refine q8 Q62 (sB h (fun _ h => ?_) fun _ h => ?_)
     · simp only [go_sem]; refine q04 Q60 (x9 Q57 ?_); exact nxC _ h [] leA
     · simp only [go_sem]; refine q04 Q60 (x9 Q57 ?_); exact nxC _ h [] leA
    · refine q0s (q23 Q58 (q0t Q57 (q0k Q56 (x9 Q55 (⟨i_19, [], ?_, h⟩))))); exact leA
   ·
    rintro i_17 h
    try dsimp only at h
    rw [q2l] at h; refine jg fun _ Q47 => ?_; refine sM ?_; refine w9 fun _ Q49 => ?_; refine q0n h [10] (fun x => ([(0, .osl 0 4 (0) (x.2.length)), (13, .v (.int .i64 x.1))], [(0, .arr 4 (enc x.2))])) 1 ?_; rintro m_12 ⟨k_7, a_10⟩ h _ Q50; rw [q47] at h; refine sg fun _ Q51 => ?_; refine sM ?_; refine sB h (fun _ h => ?_) fun _ h => ?_
    ·
     refine y7 (q8 Q51 (sg fun _ Q53 => ?_)); refine w9 fun _ Q54 => ?_; refine q07 ?_; refine q3g 16 0 0 [0, 0, 0, 0, 8, 0, 0, 64, 224, 480, 0, 0, 3072, 7168, 16355, 32739, 65535, 131071] [0] [2, 3, 4] [] [15] [] mixed (by kernel_rfl) (of_decide_eq_true (by kernel_rfl)) (by kernel_rfl) (by kernel_rfl) (by rfl) ?_; obtain ⟨xv_87, F, h⟩ := bI F h; obtain ⟨xv_88, F, h⟩ := bI F h; have rf_22 : (enc a_10).set (k_7.toNat) [.v (.int .i64 xv_87.Node), .v (.int .i64 xv_87.Epoch), .v (.int .i64 xv_87.Rec.K), .v (.int .i64 xv_87.Rec.V)] = enc (List.set a_10 (k_7.toNat) xv_87) := by exact qd4 _ _ _
     obtain ⟨xv_89, F, h⟩ := bI F h; have rf_23 : (enc (List.set a_10 (k_7.toNat) xv_87)).set (Int.toNat (i64.wrap (k_7 + 1))) [.v (.int .i64 xv_88.Node), .v (.int .i64 xv_88.Epoch), .v (.int .i64 xv_88.Rec.K), .v (.int .i64 xv_88.Rec.V)] = enc (List.set (List.set a_10 (k_7.toNat) xv_87) (Int.toNat (i64.wrap (k_7 + 1))) xv_88) := by exact qd4 _ _ _
     simp only [go_sem, rf_22, rf_23, F]; refine ai ?_; refine ai ?_; refine ai ?_; refine ai ?_; refine q04 Q54 (q8 Q53 ?_); simp only [go_sem]; refine x9 Q50 ?_; exact nxC _ h [] leA
    · refine q0s (q23 Q51 (q0t Q50 (q0k Q49 (q8 Q47 (q02 (q2o Q43 ?_)))))); simp only [go_sem]; obtain rfl := Option.some.inj h; refine q1s [] ?_; exact leA
  · refine y7 (x9 Q43 (⟨(), [], ?_, h⟩)); exact leA
 ·
  rintro ⟨⟩ h
  try dsimp only at h
  rw [q2t] at h; refine q3p (fun (_ : Unit) => q2s data_0 a_0 mv_0 b_0 cmp_0 self = some r) [0, 1, 2, 3, 4] (fun _ => ([], [(0, .arr 4 (enc data_0))])) 1 ?_ ?_
  ·
   intro _ Q23; refine sM ?_; refine sB h (fun _ h => ?_) fun _ h => ?_
   ·
    refine sM ?_; refine sM ?_; refine q3p (fun (i_12 : Int) => q2r data_0 mv_0 i_12 = some r) [0, 2] (fun i_12 => ([(14, .v (.int .i64 i_12))], [(0, .arr 4 (enc data_0))])) 1 ?_ ?_
    ·
     intro _ Q35; refine w9 fun _ Q36 => ?_; refine q0n h [0, 2, 4] (fun x => ([(14, .v (.int .i64 x.1)), (15, .v (.int .i64 x.2))], [(0, .arr 4 (enc data_0))])) 1 ?_; rintro m_10 ⟨i_14, j_11⟩ h _ Q37; rw [q48] at h; refine sg fun _ Q38 => ?_; refine sM ?_; refine sB h (fun _ h => ?_) fun _ h => ?_
     ·
      refine y7 (q8 Q38 (w9 fun _ Q40 => ?_)); refine sM ?_; refine sg fun _ Q42 => ?_; refine q07 ?_; refine j8g ?_; obtain ⟨xv_73, F, h⟩ := bI F h; obtain ⟨xv_74, F, h⟩ := bI F h; obtain ⟨v_28, ev_28, h⟩ := z8 h; simp only [go_sem, E_cmp_0, F]; refine ai ?_; refine ai ?_; refine q99 (H_cmp_0 xv_73 xv_74 v_28 ev_28) (by rfl) (by simp [go_sem, q0b, q0f, F_cmp_0]) ?_; simp only [go_sem]; refine q8 Q42 (sB h (fun _ h => ?_) fun _ h => ?_)
      · simp only [go_sem]; refine q04 Q40 (x9 Q37 ?_); exact nxC _ h [] leA
      · simp only [go_sem]; refine q04 Q40 (x9 Q37 ?_); exact nxC _ h [] leA
     · refine q0s (q23 Q38 (q0t Q37 (q0k Q36 (x9 Q35 (⟨i_14, [], ?_, h⟩))))); exact leA
    ·
     rintro i_12 h
     try dsimp only at h
     rw [q2r] at h; refine jg fun _ Q27 => ?_; refine sM ?_; refine w9 fun _ Q29 => ?_; refine q0n h [14] (fun x => ([(0, .osl 0 4 (0) (x.2.length)), (17, .v (.int .i64 x.1))], [(0, .arr 4 (enc x.2))])) 1 ?_; rintro m_9 ⟨k_5, a_8⟩ h _ Q30; rw [q4i] at h; refine sg fun _ Q31 => ?_; refine sM ?_; refine sB h (fun _ h => ?_) fun _ h => ?_
     ·
      refine y7 (q8 Q31 (sg fun _ Q33 => ?_)); refine w9 fun _ Q34 => ?_; refine q07 ?_; refine q3g 16 0 0 [0, 0, 0, 0, 8, 0, 0, 64, 224, 480, 0, 0, 3072, 7168, 16355, 32739, 65535, 131071] [0] [2, 3, 4] [] [15] [] mixed (by kernel_rfl) (of_decide_eq_true (by kernel_rfl)) (by kernel_rfl) (by kernel_rfl) (by rfl) ?_; obtain ⟨xv_66, F, h⟩ := bI F h; obtain ⟨xv_67, F, h⟩ := bI F h; have rf_16 : (enc a_8).set (k_5.toNat) [.v (.int .i64 xv_66.Node), .v (.int .i64 xv_66.Epoch), .v (.int .i64 xv_66.Rec.K), .v (.int .i64 xv_66.Rec.V)] = enc (List.set a_8 (k_5.toNat) xv_66) := by exact qd4 _ _ _
      obtain ⟨xv_68, F, h⟩ := bI F h; have rf_17 : (enc (List.set a_8 (k_5.toNat) xv_66)).set (Int.toNat (i64.wrap (k_5 - 1))) [.v (.int .i64 xv_67.Node), .v (.int .i64 xv_67.Epoch), .v (.int .i64 xv_67.Rec.K), .v (.int .i64 xv_67.Rec.V)] = enc (List.set (List.set a_8 (k_5.toNat) xv_66) (Int.toNat (i64.wrap (k_5 - 1))) xv_67) := by exact qd4 _ _ _
      simp only [go_sem, rf_16, rf_17, F]; refine ai ?_; refine ai ?_; refine ai ?_; refine ai ?_; refine q04 Q34 (q8 Q33 ?_); simp only [go_sem]; refine x9 Q30 ?_; exact nxC _ h [] leA
     · refine q0s (q23 Q31 (q0t Q30 (q0k Q29 (q8 Q27 (q02 (q2o Q23 ?_)))))); simp only [go_sem]; obtain rfl := Option.some.inj h; refine q1s [] ?_; exact leA
   · refine y7 (x9 Q23 (⟨(), [], ?_, h⟩)); exact leA
  ·
   rintro ⟨⟩ h
   try dsimp only at h
   rw [q2s] at h; refine sM ?_; refine sM ?_; refine sM ?_; refine q3p (fun ((start_0, rv_0) : Int × Int) => q1b data_0 a_0 mv_0 b_0 cmp_0 self start_0 rv_0 = some r) [0, 1, 2, 3, 4, 18, 19] (fun x => ([(20, .v (.int .i64 x.1)), (21, .v (.int .i64 x.2))], [(0, .arr 4 (enc data_0))])) 1 ?_ ?_
   ·
    intro _ Q19; refine sM ?_; refine sB h (fun _ h => ?_) fun _ h => ?_
    · refine sM ?_; simp only [go_sem]; refine x9 Q19 (⟨(i64.wrap ((i64.wrap ((i64.wrap (q26 .u64 (IntKind.u64.wrap (i64.wrap (a_0 + b_0))) 1)) + mv_0)) - b_0), i64.wrap (q26 .u64 (IntKind.u64.wrap (i64.wrap (a_0 + b_0))) 1)), [], ?_, h⟩); exact leA
    · refine sM ?_; simp only [go_sem]; refine x9 Q19 (⟨(a_0, mv_0), [], ?_, h⟩); exact leA
   ·
    rintro ⟨start_0, rv_0⟩ h
    try dsimp only at h
    rw [q1b] at h; refine sM ?_; refine q3p (fun (start_3 : Int) => q1t data_0 a_0 mv_0 b_0 cmp_0 self start_3 = some r) [0, 1, 2, 3, 4, 18, 19] (fun start_3 => ([(20, .v (.int .i64 start_3))], [(0, .arr 4 (enc data_0))])) 1 ?_ ?_
    ·
     intro _ Q11; refine w9 fun _ Q12 => ?_; refine q0n h [0, 1, 2, 3, 4, 18, 19, 22] (fun x => ([(20, .v (.int .i64 x.1)), (21, .v (.int .i64 x.2))], [(0, .arr 4 (enc data_0))])) 1 ?_; rintro m_7 ⟨start_5, rv_4⟩ h _ Q13; rw [q4j] at h; refine sg fun _ Q14 => ?_; refine sM ?_; refine sB h (fun _ h => ?_) fun _ h => ?_
     ·
      refine y7 (q8 Q14 (w9 fun _ Q16 => ?_)); refine sM ?_; refine sg fun _ Q18 => ?_; refine q07 ?_; refine j8g ?_; obtain ⟨xv_52, F, h⟩ := bI F h; obtain ⟨xv_53, F, h⟩ := bI F h; obtain ⟨v_22, ev_22, h⟩ := z8 h; simp only [go_sem, E_cmp_0, F]; refine ai ?_; refine ai ?_; refine q99 (H_cmp_0 xv_52 xv_53 v_22 ev_22) (by rfl) (by simp [go_sem, q0b, q0f, F_cmp_0]) ?_; simp only [go_sem]; refine q8 Q18 (sB h (fun _ h => ?_) fun _ h => ?_)
      · simp only [go_sem]; refine q04 Q16 (x9 Q13 ?_); exact nxC _ h [] leA
      · simp only [go_sem]; refine q04 Q16 (x9 Q13 ?_); exact nxC _ h [] leA
     · refine q0s (q23 Q14 (q0t Q13 (q0k Q12 (x9 Q11 (⟨start_5, [], ?_, h⟩))))); exact leA
    ·
     rintro start_3 h
     try dsimp only at h
     rw [q1t] at h; refine sM ?_; refine q3p (fun (a_5 : (List GOut)) => q1a a_0 mv_0 b_0 cmp_0 self start_3 a_5 = some r) [1, 3, 4, 18, 20, 24] (fun a_5 => ([(0, .osl 0 4 (0) (a_5.length))], [(0, .arr 4 (enc a_5))])) 1 ?_ ?_
     ·
      intro _ Q9; refine sM ?_; refine sB h (fun _ h => ?_) fun _ h => ?_
      · obtain ⟨v_19, ev_19, h⟩ := z8 h; simp only [go_sem]; refine q5t [0] (qi2 data_0 start_3 mv_0 (i64.wrap ((i64.wrap ((i64.wrap (q26 .u64 (IntKind.u64.wrap (i64.wrap (a_0 + b_0))) 1)) + mv_0)) - start_3)) cmp_0 g_cmp_0 c_cmp_0 F_cmp_0 E_cmp_0 H_cmp_0 v_19 ev_19) (by simp) (by simp only [q53, q1u, q4h F_cmp_0] <;> rfl) ⟨rfl, trivial⟩ (by simp only [ltL, ltA, q5m F_cmp_0] <;> rfl) rfl rfl rfl ?_; obtain ⟨F, h⟩ := bG F h; simp only [go_sem, F]; refine x9 Q9 (⟨v_19, [], ?_, h⟩); exact leA
      · refine y7 (x9 Q9 (⟨data_0, [], ?_, h⟩)); exact leA
     ·
      rintro a_5 h
      try dsimp only at h
      rw [q1a] at h; refine q3p (fun (a_6 : (List GOut)) => q19 a_0 mv_0 b_0 cmp_0 self start_3 a_6 = some r) [3, 4, 18, 24] (fun a_6 => ([(0, .osl 0 4 (0) (a_6.length))], [(0, .arr 4 (enc a_6))])) 1 ?_ ?_
      ·
       intro _ Q7; refine sM ?_; refine sB h (fun _ h => ?_) fun _ h => ?_
       · obtain ⟨v_18, ev_18, h⟩ := z8 h; simp only [go_sem]; refine q5t [0] (Hself a_5 a_0 start_3 (i64.wrap (q26 .u64 (IntKind.u64.wrap (i64.wrap (a_0 + b_0))) 1)) cmp_0 g_cmp_0 c_cmp_0 F_cmp_0 E_cmp_0 H_cmp_0 v_18 ev_18) (by simp) (by simp only [q53, q1u, q4h F_cmp_0] <;> rfl) ⟨rfl, trivial⟩ (by simp only [ltL, ltA, q5m F_cmp_0] <;> rfl) rfl rfl rfl ?_; obtain ⟨F, h⟩ := bG F h; simp only [go_sem, F]; refine x9 Q7 (⟨v_18, [], ?_, h⟩); exact leA
       · refine y7 (x9 Q7 (⟨a_5, [], ?_, h⟩)); exact leA
      ·
       rintro a_6 h
       try dsimp only at h
       rw [q19] at h; refine sM ?_; refine sB h (fun _ h => ?_) fun _ h => ?_
       · obtain ⟨v_17, ev_17, h⟩ := z8 h; simp only [go_sem]; refine q5t [0] (Hself a_6 (i64.wrap (q26 .u64 (IntKind.u64.wrap (i64.wrap (a_0 + b_0))) 1)) (i64.wrap ((i64.wrap ((i64.wrap (q26 .u64 (IntKind.u64.wrap (i64.wrap (a_0 + b_0))) 1)) + mv_0)) - start_3)) b_0 cmp_0 g_cmp_0 c_cmp_0 F_cmp_0 E_cmp_0 H_cmp_0 v_17 ev_17) (by simp) (by simp only [q53, q1u, q4h F_cmp_0] <;> rfl) ⟨rfl, trivial⟩ (by simp only [ltL, ltA, q5m F_cmp_0] <;> rfl) rfl rfl rfl ?_; obtain ⟨F, h⟩ := bG F h; simp only [go_sem, F]; obtain rfl := Option.some.inj h; refine q1s [] ?_; exact leA
       · refine y7 ?_; simp only [go_sem]; obtain rfl := Option.some.inj h; refine q1s [] ?_; exact leA
theorem q69 : ∀ (n : Nat) (data_0 : List GOut) (a_0 : Int) (mv_0 : Int) (b_0 : Int) (cmp_0 : GOut → GOut → Option Int) (g_cmp_0 : FuncId) (c_cmp_0 : List AV) (F_cmp_0 : q0b c_cmp_0 = true) (E_cmp_0 : p8 pp g_cmp_0 = true) (H_cmp_0 : ∀ (x0 : GOut) (x1 : GOut) (r : Int), cmp_0 x0 x1 = some r → PureS pp g_cmp_0 ([.agg (Row.row x0), .agg (Row.row x1)] ++ c_cmp_0) 0 (.v (.int .i64 r))) (r : List GOut), q08 n data_0 a_0 mv_0 b_0 cmp_0 = some r → DetS pp 62 [.osl 0 4 (0) (data_0.length), .v (.int .i64 a_0), .v (.int .i64 mv_0), .v (.int .i64 b_0), .clo g_cmp_0 c_cmp_0] [(0, .arr 4 (enc data_0))] 1 (.tup []) [(0, .arr 4 (enc r))] 1
  | 0, data_0, a_0, mv_0, b_0, cmp_0, g_cmp_0, c_cmp_0, F_cmp_0, E_cmp_0, H_cmp_0, r, h => by simp [q08] at h
  | n + 1, data_0, a_0, mv_0, b_0, cmp_0, g_cmp_0, c_cmp_0, F_cmp_0, E_cmp_0, H_cmp_0, r, h => qb2 (q08 n) (q69 n) data_0 a_0 mv_0 b_0 cmp_0 g_cmp_0 c_cmp_0 F_cmp_0 E_cmp_0 H_cmp_0 r h
theorem q6k (data_0 : List GOut) (a_0 : Int) (mv_0 : Int) (b_0 : Int) (cmp_0 : GOut → GOut → Option Int) (g_cmp_0 : FuncId) (c_cmp_0 : List AV) (F_cmp_0 : q0b c_cmp_0 = true) (E_cmp_0 : p8 pp g_cmp_0 = true) (H_cmp_0 : ∀ (x0 : GOut) (x1 : GOut) (r : Int), cmp_0 x0 x1 = some r → PureS pp g_cmp_0 ([.agg (Row.row x0), .agg (Row.row x1)] ++ c_cmp_0) 0 (.v (.int .i64 r))) (r : List GOut) (h : q38 data_0 a_0 mv_0 b_0 cmp_0 = some r) : DetS pp 62 [.osl 0 4 (0) (data_0.length), .v (.int .i64 a_0), .v (.int .i64 mv_0), .v (.int .i64 b_0), .clo g_cmp_0 c_cmp_0] [(0, .arr 4 (enc data_0))] 1 (.tup []) [(0, .arr 4 (enc r))] 1 := q69 rounds data_0 a_0 mv_0 b_0 cmp_0 g_cmp_0 c_cmp_0 F_cmp_0 E_cmp_0 H_cmp_0 r h
def q2y (nv_0 : Int) (cmp_0 : GOut → GOut → Option Int) (blockSize_1 : Int) (rec_2 : (Int × (List GOut) → Option (List GOut))) (a_32 : Int) (a_33 : List GOut) : Option (List GOut) :=
 (if (decide ((i64.wrap (a_32 + blockSize_1)) < nv_0)) = true then q9 (q38 a_33 a_32 (i64.wrap (a_32 + blockSize_1)) nv_0 cmp_0) (fun v_21 =>
 p9 (v_21.length = a_33.length) (
 rec_2 (i64.wrap (blockSize_1 * 2), v_21)))
 else rec_2 (i64.wrap (blockSize_1 * 2), a_33))
def q55 (nv_0 : Int) (cmp_0 : GOut → GOut → Option Int) (blockSize_1 : Int) (rec_2 : (Int × (List GOut) → Option (List GOut))) (rec_4 : Int × Int × (List GOut) → Option (List GOut)) : Int × Int × (List GOut) → Option (List GOut) :=
 fun (a_36, b_13, a_37) =>
 (if (decide (b_13 ≤ nv_0)) = true then q9 (q38 a_37 a_36 (i64.wrap (a_36 + blockSize_1)) b_13 cmp_0) (fun v_24 =>
 p9 (v_24.length = a_37.length) (
 rec_4 (b_13, i64.wrap (b_13 + (i64.wrap (2 * blockSize_1))), v_24)))
 else q2y nv_0 cmp_0 blockSize_1 rec_2 a_36 a_37)
def q31 (nv_0 : Int) (cmp_0 : GOut → GOut → Option Int) (rec_2 : Int × (List GOut) → Option (List GOut)) : Int × (List GOut) → Option (List GOut) :=
 fun (blockSize_1, a_27) =>
 (if (decide (blockSize_1 < nv_0)) = true then d9 (q55 nv_0 cmp_0 blockSize_1 rec_2) rounds (0, i64.wrap (2 * blockSize_1), a_27)
 else some a_27)
def q30 (nv_0 : Int) (cmp_0 : GOut → GOut → Option Int) (a_4 : Int) (a_5 : List GOut) : Option (List GOut) :=
 q9 (q0o a_5 a_4 nv_0 cmp_0) (fun v_3 =>
 p9 (v_3.length = a_5.length) (
 d9 (q31 nv_0 cmp_0) rounds (20, v_3)))
def q54 (nv_0 : Int) (cmp_0 : GOut → GOut → Option Int) (rec_5 : Int × Int × (List GOut) → Option (List GOut)) : Int × Int × (List GOut) → Option (List GOut) :=
 fun (a_40, b_15, a_41) =>
 (if (decide (b_15 ≤ nv_0)) = true then q9 (q0o a_41 a_40 b_15 cmp_0) (fun v_27 =>
 p9 (v_27.length = a_41.length) (
 rec_5 (b_15, i64.wrap (b_15 + 20), v_27)))
 else q30 nv_0 cmp_0 a_40 a_41)
def q3q (data_0 : List GOut) (nv_0 : Int) (cmp_0 : GOut → GOut → Option Int) : Option (List GOut) :=
 d9 (q54 nv_0 cmp_0) rounds (0, 20, data_0)
theorem qi1 (data_0 : List GOut) (nv_0 : Int) (cmp_0 : GOut → GOut → Option Int) (g_cmp_0 : FuncId) (c_cmp_0 : List AV) (F_cmp_0 : q0b c_cmp_0 = true) (E_cmp_0 : p8 pp g_cmp_0 = true) (H_cmp_0 : ∀ (x0 : GOut) (x1 : GOut) (r : Int), cmp_0 x0 x1 = some r → PureS pp g_cmp_0 ([.agg (Row.row x0), .agg (Row.row x1)] ++ c_cmp_0) 0 (.v (.int .i64 r))) (r : List GOut) (h : q3q data_0 nv_0 cmp_0 = some r) : DetS pp 33 [.osl 0 4 (0) (data_0.length), .v (.int .i64 nv_0), .clo g_cmp_0 c_cmp_0] [(0, .arr 4 (enc data_0))] 1 (.tup []) [(0, .arr 4 (enc r))] 1 := by
 refine dtI Tryz.func33 rfl ?_; rw [q3q] at h; have F := trivial; refine sM ?_; refine sM ?_; refine q3p (fun ((a_4, a_5) : Int × (List GOut)) => q30 nv_0 cmp_0 a_4 a_5 = some r) [1, 2, 6] (fun x => ([(0, .osl 0 4 (0) (x.2.length)), (7, .v (.int .i64 x.1))], [(0, .arr 4 (enc x.2))])) 1 ?_ ?_
 ·
  intro _ Q21; refine w9 fun _ Q22 => ?_; refine q0n h [1, 2, 6] (fun x => ([(0, .osl 0 4 (0) (x.2.2.length)), (7, .v (.int .i64 x.1)), (8, .v (.int .i64 x.2.1))], [(0, .arr 4 (enc x.2.2))])) 1 ?_; rintro m_5 ⟨a_40, b_15, a_41⟩ h _ Q23; rw [q54] at h; refine sg fun _ Q24 => ?_; refine sM ?_; refine sB h (fun _ h => ?_) fun _ h => ?_
  · refine y7 (q8 Q24 (w9 fun _ Q26 => ?_)); refine sg fun _ Q27 => ?_; obtain ⟨v_27, ev_27, h⟩ := z8 h; simp only [go_sem]; refine q5t [0] (q5q a_41 a_40 b_15 cmp_0 g_cmp_0 c_cmp_0 F_cmp_0 E_cmp_0 H_cmp_0 v_27 ev_27) (by simp) (by simp only [q53, q1u, q4h F_cmp_0] <;> rfl) ⟨rfl, trivial⟩ (by simp only [ltL, ltA, q5m F_cmp_0] <;> rfl) rfl rfl rfl ?_; obtain ⟨F, h⟩ := bG F h; simp only [go_sem, F]; refine q8 Q27 (sM ?_); simp only [go_sem]; refine q04 Q26 (x9 Q23 ?_); exact nxC _ h [] leA
  · refine q0s (q23 Q24 (q0t Q23 (q0k Q22 (x9 Q21 (⟨(a_40, a_41), [], ?_, h⟩))))); exact leA
 ·
  rintro ⟨a_4, a_5⟩ h
  try dsimp only at h
  rw [q30] at h; refine sg fun _ Q3 => ?_; obtain ⟨v_3, ev_3, h⟩ := z8 h; simp only [go_sem]; refine q5t [0] (q5q a_5 a_4 nv_0 cmp_0 g_cmp_0 c_cmp_0 F_cmp_0 E_cmp_0 H_cmp_0 v_3 ev_3) (by simp) (by simp only [q53, q1u, q4h F_cmp_0] <;> rfl) ⟨rfl, trivial⟩ (by simp only [ltL, ltA, q5m F_cmp_0] <;> rfl) rfl rfl rfl ?_; obtain ⟨F, h⟩ := bG F h; simp only [go_sem, F]; refine q8 Q3 (w9 fun _ Q4 => ?_); refine q0n h [1, 2] (fun x => ([(0, .osl 0 4 (0) (x.2.length)), (6, .v (.int .i64 x.1))], [(0, .arr 4 (enc x.2))])) 1 ?_; rintro m_2 ⟨blockSize_1, a_27⟩ h _ Q5; rw [q31] at h; refine sg fun _ Q6 => ?_; refine sM ?_; refine sB h (fun _ h => ?_) fun _ h => ?_
  ·
   refine y7 (q8 Q6 (w9 fun _ Q8 => ?_)); refine sM ?_; refine q3p (fun ((a_32, a_33) : Int × (List GOut)) => q2y nv_0 cmp_0 blockSize_1 (d9 (q31 nv_0 cmp_0) m_2) a_32 a_33 = some r) [1, 2, 6] (fun x => ([(0, .osl 0 4 (0) (x.2.length)), (7, .v (.int .i64 x.1))], [(0, .arr 4 (enc x.2))])) 1 ?_ ?_
   ·
    intro _ Q13; refine w9 fun _ Q14 => ?_; refine q0n h [1, 2, 6] (fun x => ([(0, .osl 0 4 (0) (x.2.2.length)), (7, .v (.int .i64 x.1)), (8, .v (.int .i64 x.2.1))], [(0, .arr 4 (enc x.2.2))])) 1 ?_; rintro m_4 ⟨a_36, b_13, a_37⟩ h _ Q15; rw [q55] at h; refine sg fun _ Q16 => ?_; refine sM ?_; refine sB h (fun _ h => ?_) fun _ h => ?_
    · refine y7 (q8 Q16 (w9 fun _ Q18 => ?_)); refine sg fun _ Q19 => ?_; obtain ⟨v_24, ev_24, h⟩ := z8 h; simp only [go_sem]; refine q5t [0] (q6k a_37 a_36 (i64.wrap (a_36 + blockSize_1)) b_13 cmp_0 g_cmp_0 c_cmp_0 F_cmp_0 E_cmp_0 H_cmp_0 v_24 ev_24) (by simp) (by simp only [q53, q1u, q4h F_cmp_0] <;> rfl) ⟨rfl, trivial⟩ (by simp only [ltL, ltA, q5m F_cmp_0] <;> rfl) rfl rfl rfl ?_; obtain ⟨F, h⟩ := bG F h; simp only [go_sem, F]; refine q8 Q19 (sM ?_); simp only [go_sem]; refine q04 Q18 (x9 Q15 ?_); exact nxC _ h [] leA
    · refine q0s (q23 Q16 (q0t Q15 (q0k Q14 (x9 Q13 (⟨(a_36, a_37), [], ?_, h⟩))))); exact leA
   ·
    rintro ⟨a_32, a_33⟩ h
    try dsimp only at h
    rw [q2y] at h; refine jg fun _ Q10 => ?_; refine sM ?_; refine sM ?_; refine sB h (fun _ h => ?_) fun _ h => ?_
    · obtain ⟨v_21, ev_21, h⟩ := z8 h; simp only [go_sem]; refine q5t [0] (q6k a_33 a_32 (i64.wrap (a_32 + blockSize_1)) nv_0 cmp_0 g_cmp_0 c_cmp_0 F_cmp_0 E_cmp_0 H_cmp_0 v_21 ev_21) (by simp) (by simp only [q53, q1u, q4h F_cmp_0] <;> rfl) ⟨rfl, trivial⟩ (by simp only [ltL, ltA, q5m F_cmp_0] <;> rfl) rfl rfl rfl ?_; obtain ⟨F, h⟩ := bG F h; simp only [go_sem, F]; refine q8 Q10 ?_; simp only [go_sem]; refine q04 Q8 (x9 Q5 ?_); exact nxC _ h [] leA
    · refine y7 (q8 Q10 ?_); simp only [go_sem]; refine q04 Q8 (x9 Q5 ?_); exact nxC _ h [] leA
  · refine q0s (q23 Q6 (q0t Q5 (q0k Q4 ?_))); simp only [go_sem]; obtain rfl := Option.some.inj h; refine q1s [] ?_; exact leA
def q0v (xv_0 : List GOut) (cmp_0 : GOut → GOut → Option Int) : Option (List GOut) :=
 q9 (q3q xv_0 (xv_0.length : Int) cmp_0) (fun v_0 =>
 p9 (v_0.length = xv_0.length) (
 some v_0))
theorem qg0 (xv_0 : List GOut) (cmp_0 : GOut → GOut → Option Int) (g_cmp_0 : FuncId) (c_cmp_0 : List AV) (F_cmp_0 : q0b c_cmp_0 = true) (E_cmp_0 : p8 pp g_cmp_0 = true) (H_cmp_0 : ∀ (x0 : GOut) (x1 : GOut) (r : Int), cmp_0 x0 x1 = some r → PureS pp g_cmp_0 ([.agg (Row.row x0), .agg (Row.row x1)] ++ c_cmp_0) 0 (.v (.int .i64 r))) (r : List GOut) (h : q0v xv_0 cmp_0 = some r) : DetS pp 20 [.osl 0 4 (0) (xv_0.length), .clo g_cmp_0 c_cmp_0] [(0, .arr 4 (enc xv_0))] 1 (.tup []) [(0, .arr 4 (enc r))] 1 := by
 refine dtI Tryz.func20 rfl ?_; rw [q0v] at h; have F := trivial; obtain ⟨v_0, ev_0, h⟩ := z8 h; simp only [go_sem]; refine q5t [0] (qi1 xv_0 (xv_0.length : Int) cmp_0 g_cmp_0 c_cmp_0 F_cmp_0 E_cmp_0 H_cmp_0 v_0 ev_0) (by simp) (by simp only [q53, q1u, q4h F_cmp_0] <;> rfl) ⟨rfl, trivial⟩ (by simp only [ltL, ltA, q5m F_cmp_0] <;> rfl) rfl rfl rfl ?_; obtain ⟨F, h⟩ := bG F h; simp only [go_sem, F]; obtain rfl := Option.some.inj h; refine q1s [] ?_; exact leA
def qb4 (s_0 : List GFeed) (f_0 : GFeed → Option Bool) (rec_1 : Int → Option Int) : Int → Option Int :=
 fun t8_1 =>
 (if (decide (t8_1 < (s_0.length : Int))) = true then q9 (idx s_0 t8_1) (fun xv_2 =>
 q9 (f_0 xv_2) (fun v_2 =>
 (if v_2 = true then some t8_1
 else rec_1 (i64.wrap (t8_1 + 1)))))
 else some (-1))
def q8a (s_0 : List GFeed) (f_0 : GFeed → Option Bool) : Option Int :=
 d9 (qb4 s_0 f_0) rounds 0
theorem qu3 (s_0 : List GFeed) (f_0 : GFeed → Option Bool) (g_f_0 : FuncId) (c_f_0 : List AV) (F_f_0 : q0b c_f_0 = true) (E_f_0 : p8 pp g_f_0 = true) (H_f_0 : ∀ (x0 : GFeed) (r : Bool), f_0 x0 = some r → PureS pp g_f_0 ([.agg (Row.row x0)] ++ c_f_0) 0 (.v (.bool r))) (r : Int) (h : q8a s_0 f_0 = some r) : PureS pp 40 [.sl 4 (enc s_0), .clo g_f_0 c_f_0] 0 (.v (.int .i64 r)) := by
 refine ptI Tryz.func40 rfl ?_; rw [q8a] at h; have F := trivial; refine sM ?_; refine jg fun _ Q2 => ?_; refine sM ?_; refine w9 fun _ Q4 => ?_; refine q0n h [0, 1, 7] (fun t8_1 => ([(8, .v (.int .i64 t8_1))], [])) 0 ?_; rintro m_1 t8_1 h _ Q5; rw [qb4] at h; refine sM ?_; refine sg fun _ Q7 => ?_; refine sB h (fun _ h => ?_) fun _ h => ?_
 ·
  refine y7 (q8 Q7 (sg fun _ Q8 => ?_)); refine w9 fun _ Q9 => ?_; refine sM ?_; refine sg fun _ Q11 => ?_; obtain ⟨xv_2, F, h⟩ := bI F h; obtain ⟨v_2, ev_2, h⟩ := z8 h; simp only [go_sem, E_f_0, F]; refine ai ?_; refine q99 (H_f_0 xv_2 v_2 ev_2) (by rfl) (by simp [go_sem, q0b, q0f, F_f_0]) ?_; simp only [go_sem]; refine q8 Q11 (sB h (fun _ h => ?_) fun _ h => ?_)
  · refine sM ?_; refine q02 (q0p Q9 (q15 Q8 (q2o Q5 (q0p Q4 (q15 Q2 ?_))))); simp only [go_sem]; obtain rfl := Option.some.inj h; refine q68 rfl ?_; exact leA
  · refine y7 (q04 Q9 (q8 Q8 ?_)); simp only [go_sem]; refine x9 Q5 ?_; exact nxC _ h [] leA
 · refine q0s (q23 Q7 (q0t Q5 (q0k Q4 (q8 Q2 (sM ?_))))); refine q02 ?_; simp only [go_sem]; obtain rfl := Option.some.inj h; refine q68 rfl ?_; exact leA
def q5j (s_0 : List GFeed) (f_0 : GFeed → Option Bool) : Option Bool :=
 q9 (q8a s_0 f_0) (fun v_0 =>
 some (decide (0 ≤ v_0)))
theorem qq0 (s_0 : List GFeed) (f_0 : GFeed → Option Bool) (g_f_0 : FuncId) (c_f_0 : List AV) (F_f_0 : q0b c_f_0 = true) (E_f_0 : p8 pp g_f_0 = true) (H_f_0 : ∀ (x0 : GFeed) (r : Bool), f_0 x0 = some r → PureS pp g_f_0 ([.agg (Row.row x0)] ++ c_f_0) 0 (.v (.bool r))) (r : Bool) (h : q5j s_0 f_0 = some r) : PureS pp 24 [.sl 4 (enc s_0), .clo g_f_0 c_f_0] 0 (.v (.bool r)) := by
 refine ptI Tryz.func24 rfl ?_; rw [q5j] at h; have F := trivial; refine sM ?_; refine sg fun _ Q2 => ?_; obtain ⟨v_0, ev_0, h⟩ := z8 h; simp only [go_sem]; refine q99 (qu3 s_0 f_0 g_f_0 c_f_0 F_f_0 E_f_0 H_f_0 v_0 ev_0) (by rfl) (by simp [go_sem, q0b, q0f, F_f_0]) ?_; simp only [go_sem]; refine q8 Q2 (q02 ?_); simp only [go_sem]; obtain rfl := Option.some.inj h; refine q68 rfl ?_; exact leA
def q9f (f_0 : GFeed) (cap_0 : GGraph) : Option Bool :=
 (if ((decide (f_0.Node < 0)) || (decide ((cap_0.Nodes.length : Int) ≤ f_0.Node))) = true then some true
 else q9 (idx cap_0.Nodes f_0.Node) (fun xv_0 =>
 some (((!(xv_0.Kind == 1)) || (decide (f_0.Epoch < 0))) || (decide (1048576 < f_0.Epoch)))))
instance z4i (f_0 : GFeed) (cap_0 : GGraph) : Ct pp 25 (q9f f_0 cap_0) [.agg (Row.row f_0), .el 4 [(Row.row cap_0)] 0 0] fun r => (.v (.bool r)) := ctI Tryz.func25 rfl (by rw [q9f]; exact au1)
def qg4 (g_0 : GGraph) (feeds_0 : List GFeed) (most_0 : Int) : Option Bool :=
 q9 (qb1 g_0) (fun v_0 =>
 (if (((!(v_0.1 == 0)) || (decide (most_0 < 0))) || (decide (1048576 < most_0))) = true then some false
 else q9 (q5j feeds_0 (fun x0_ => q9f x0_ g_0)) (fun v_1 =>
 some (!v_1))))
instance z7d (g_0 : GGraph) (feeds_0 : List GFeed) (most_0 : Int) : Ct pp 15 (qg4 g_0 feeds_0 most_0) [.agg (Row.row g_0), .sl 4 (enc feeds_0), .v (.int .i64 most_0)] fun r => (.v (.bool r)) := ctK Tryz.func15 rfl (by rw [qg4]) (by
 intro r h F; refine sM ?_; refine sg fun _ Q2 => ?_; refine sg fun _ Q3 => ?_; simp only [go_sem]; refine q5u h fun v_0 h => ?_; simp only [go_sem]; refine q8 Q3 (sM ?_); refine sB h (fun _ h => ?_) fun _ h => ?_
 · exact au
 · refine y7 (q8 Q2 (sg fun _ Q6 => ?_)); obtain ⟨v_1, ev_1, h⟩ := z8 h; simp only [go_sem]; refine z14 (qq0 feeds_0 (fun x0_ => q9f x0_ g_0) 25 [.el 4 [(Row.row g_0)] 0 0] (by rfl) (by kernel_rfl) (fun y0 r_ e_ => z4i y0 g_0 r_ e_) v_1 ev_1) ?_; simp only [go_sem]; exact au)
def j0l : Go.Shelf.Ren := ⟨fun | 189 => 17 | 125 => 28 | 257 => 27 | 128 => 51 | 129 => 52 | 294 => 42 | 295 => 43 | 296 => 44 | 297 => 45 | 298 => 46 | 299 => 47 | 216 => 48 | 300 => 49 | 301 => 50 | 328 => 78 | 329 => 79 | 330 => 80 | 331 => 81 | 332 => 82 | 215 => 34 | 343 => 106 | n => n, fun | 28 => 22 | 3 => 3 | 46 => 48 | 0 => 0 | 51 => 103 | 53 => 46 | 4 => 4 | 183 => 96 | 182 => 95 | 131 => 100 | 5 => 5 | 9 => 9 | 218 => 133 | 222 => 137 | 228 => 162 | 229 => 163 | n => n, fun | n => n⟩
theorem j40 : Go.Proofs.Lays.n189 pp j0l := {
  mixed := by kernel_rfl
  f125 := Tryz.func28.trans (congrArg some (by kernel_rfl))
  f128 := Tryz.func51.trans (congrArg some (by kernel_rfl))
  f129 := Tryz.func52.trans (congrArg some (by kernel_rfl))
  f189 := Tryz.func17.trans (congrArg some (by kernel_rfl))
  f215 := Tryz.func34.trans (congrArg some (by kernel_rfl))
  f216 := Tryz.func48.trans (congrArg some (by kernel_rfl))
  f257 := Tryz.func27.trans (congrArg some (by kernel_rfl))
  f294 := Tryz.func42.trans (congrArg some (by kernel_rfl))
  f295 := Tryz.func43.trans (congrArg some (by kernel_rfl))
  f296 := Tryz.func44.trans (congrArg some (by kernel_rfl))
  f297 := Tryz.func45.trans (congrArg some (by kernel_rfl))
  f298 := Tryz.func46.trans (congrArg some (by kernel_rfl))
  f299 := Tryz.func47.trans (congrArg some (by kernel_rfl))
  f300 := Tryz.func49.trans (congrArg some (by kernel_rfl))
  f301 := Tryz.func50.trans (congrArg some (by kernel_rfl))
  f328 := Tryz.func78.trans (congrArg some (by kernel_rfl))
  f329 := Tryz.func79.trans (congrArg some (by kernel_rfl))
  f330 := Tryz.func80.trans (congrArg some (by kernel_rfl))
  f331 := Tryz.func81.trans (congrArg some (by kernel_rfl))
  f332 := Tryz.func82.trans (congrArg some (by kernel_rfl))
  f343 := Tryz.func106.trans (congrArg some (by kernel_rfl))
  t0 := Tryz.underlying0
  a0 := Tryz.isAgg0
  z0 := Tryz.sizeOf0
  v0 := Tryz.zeroValue0
  t3 := Tryz.underlying3
  a3 := Tryz.isAgg3
  z3 := Tryz.sizeOf3
  v3 := Tryz.zeroValue3
  t4 := Tryz.underlying4
  a4 := Tryz.isAgg4
  z4 := Tryz.sizeOf4
  v4 := Tryz.zeroValue4
  t5 := Tryz.underlying5
  a5 := Tryz.isAgg5
  z5 := Tryz.sizeOf5
  v5 := Tryz.zeroValue5
  t9 := Tryz.underlying9
  a9 := Tryz.isAgg9
  z9 := Tryz.sizeOf9
  v9 := Tryz.zeroValue9
  t28 := Tryz.underlying22
  a28 := Tryz.isAgg22
  z28 := Tryz.sizeOf22
  v28 := Tryz.zeroValue22
  t46 := Tryz.underlying48
  a46 := Tryz.isAgg48
  z46 := Tryz.sizeOf48
  v46 := Tryz.zeroValue48
  t51 := Tryz.underlying103
  a51 := Tryz.isAgg103
  z51 := Tryz.sizeOf103
  v51 := Tryz.zeroValue103
  t53 := Tryz.underlying46
  a53 := Tryz.isAgg46
  z53 := Tryz.sizeOf46
  v53 := Tryz.zeroValue46
  t131 := Tryz.underlying100
  a131 := Tryz.isAgg100
  z131 := Tryz.sizeOf100
  v131 := Tryz.zeroValue100
  t182 := Tryz.underlying95
  a182 := Tryz.isAgg95
  z182 := Tryz.sizeOf95
  v182 := Tryz.zeroValue95
  t183 := Tryz.underlying96
  a183 := Tryz.isAgg96
  z183 := Tryz.sizeOf96
  v183 := Tryz.zeroValue96
  t218 := Tryz.underlying133
  a218 := Tryz.isAgg133
  z218 := Tryz.sizeOf133
  v218 := Tryz.zeroValue133
  t222 := Tryz.underlying137
  a222 := Tryz.isAgg137
  z222 := Tryz.sizeOf137
  v222 := Tryz.zeroValue137
  t228 := Tryz.underlying162
  a228 := Tryz.isAgg162
  z228 := Tryz.sizeOf162
  v228 := Tryz.zeroValue162
  t229 := Tryz.underlying163
  a229 := Tryz.isAgg163
  z229 := Tryz.sizeOf163
  v229 := Tryz.zeroValue163 }
def q8y (x_0 : List Int) : Option (List Int) := zr5 x_0
theorem qu1 (x_0 : List Int) (r : List Int) (h : q8y x_0 = some r) : DetS pp 17 [.osl 0 1 0 (x_0.length)] [(0, .arr 1 (enc x_0))] 1 (.tup []) [(0, .arr 1 (enc r))] 1 :=
  zd1 j40 (by kernel_rfl) (fun w => Any.slices_Sort_int_none j40 none 0 w) h
def j0k : Go.Shelf.Ren := ⟨fun | 20 => 18 | n => n, fun | 22 => 22 | 3 => 3 | 4 => 4 | 0 => 0 | n => n, fun | n => n⟩
theorem j89 : Go.Proofs.Lays2.n20 pp j0k := {
  mixed := by kernel_rfl
  f20 := Tryz.func18.trans (congrArg some (by kernel_rfl))
  t0 := Tryz.underlying0
  a0 := Tryz.isAgg0
  z0 := Tryz.sizeOf0
  v0 := Tryz.zeroValue0
  t3 := Tryz.underlying3
  a3 := Tryz.isAgg3
  z3 := Tryz.sizeOf3
  v3 := Tryz.zeroValue3
  t4 := Tryz.underlying4
  a4 := Tryz.isAgg4
  z4 := Tryz.sizeOf4
  v4 := Tryz.zeroValue4
  t22 := Tryz.underlying22
  a22 := Tryz.isAgg22
  z22 := Tryz.sizeOf22
  v22 := Tryz.zeroValue22
  i3 := by kernel_rfl }
def q7h (x_0 : List Int) : Option (List Int) := z5s x_0
theorem qq2 (x_0 : List Int) (r : List Int) (h : q7h x_0 = some r) : DetS pp 18 [.osl 0 1 0 (x_0.length)] [(0, .arr 1 (enc x_0))] 1 (.osl 0 1 0 (r.length)) [(0, .arr 1 (enc r))] 1 :=
  z7k j89 (by kernel_rfl) h
def q8t (xv_0 : Int) : Option Bool :=
 some (!(xv_0 == xv_0))
instance j0y (xv_0 : Int) : Ct pp 34 (q8t xv_0) [.v (.int .i64 xv_0)] fun r => (.v (.bool r)) := ctI Tryz.func34 rfl (by rw [q8t]; exact au1)
def q7c (xv_0 : Int) (y_0 : Int) : Option Int :=
 q9 (q8t xv_0) (fun v_0 =>
 q9 (q8t y_0) (fun v_1 =>
 (if v_0 = true then (if v_1 = true then some 0
 else some (-1))
 else (if v_1 = true then some 1
 else (if (decide (xv_0 < y_0)) = true then some (-1)
 else (if (decide (y_0 < xv_0)) = true then some 1
 else some 0))))))
instance zv7 (xv_0 : Int) (y_0 : Int) : Ct pp 22 (q7c xv_0 y_0) [.v (.int .i64 xv_0), .v (.int .i64 y_0)] fun r => (.v (.int .i64 r)) := ctI Tryz.func22 rfl (by rw [q7c]; exact au1)
def q5g (a_0 : GOut) (b_0 : GOut) : Option Int :=
 q9 (q7c a_0.Node b_0.Node) (fun v_0 =>
 some v_0)
instance z7e (a_0 : GOut) (b_0 : GOut) : Ct pp 21 (q5g a_0 b_0) [.agg (Row.row a_0), .agg (Row.row b_0)] fun r => (.v (.int .i64 r)) := ctI Tryz.func21 rfl (by rw [q5g]; exact au1)
def qb6 (b_5 : GMean_runner) : Option ((List GOut) × Int) :=
 (if (!(b_5.e == 0)) = true then some (([] : List GOut), b_5.e)
 else q9 (q0v b_5.outs (fun x0_ x1_ => q5g x0_ x1_)) (fun v_9 =>
 p9 (v_9.length = b_5.outs.length) (
 some (v_9, 0))))
def qb8 (g_0 : GGraph) (v_10 : List Int) (rec_3 : Int × GMean_runner → Option ((List GOut) × Int)) : Int × GMean_runner → Option ((List GOut) × Int) :=
 fun (t55_3, b_7) =>
 (if (decide (t55_3 < (v_10.length : Int))) = true then q9 (idx v_10 t55_3) (fun xv_8 =>
 q9 (q9j b_7 0 (g_0.Nodes.length : Int) 0 (⟨1, (⟨xv_8, 0, 0, 0⟩ : Arr4 Int)⟩ : GTime)) (fun v_13 =>
 rec_3 (i64.wrap (t55_3 + 1), v_13.2)))
 else qb6 b_7)
def qk7 (g_0 : GGraph) (b_2 : GMean_runner) (a_2 : List Int) : Option ((List GOut) × Int) :=
 q9 (q8y a_2) (fun v_4 =>
 p9 (v_4.length = a_2.length) (
 q9 (q7h v_4) (fun v_10 =>
 d9 (qb8 g_0 v_10) rounds (0, b_2))))
def qb7 (g_0 : GGraph) (feeds_0 : List GFeed) (rec_4 : Int × GMean_runner × (List Int) → Option ((List GOut) × Int)) : Int × GMean_runner × (List Int) → Option ((List GOut) × Int) :=
 fun (t28_3, b_9, a_4) =>
 (if (decide (t28_3 < (feeds_0.length : Int))) = true then q9 (idx feeds_0 t28_3) (fun xv_11 =>
 p9 ((a_4.length + List.length ([xv_11.Epoch] : List Int)) * 8 ≤ 140737488355328) (
 q9 (q2n b_9 xv_11.Node 0 (⟨1, (⟨xv_11.Epoch, 0, 0, 0⟩ : Arr4 Int)⟩ : GTime) ([(⟨xv_11.Rec, 1⟩ : GItem)] : List GItem)) (fun v_16 =>
 rec_4 (i64.wrap (t28_3 + 1), v_16, (a_4 ++ ([xv_11.Epoch] : List Int))))))
 else qk7 g_0 b_9 a_4)
def q9y (g_0 : GGraph) (feeds_0 : List GFeed) (most_0 : Int) : Option ((List GOut) × Int) :=
 q9 (qg4 g_0 feeds_0 most_0) (fun v_0 =>
 (if (!v_0) = true then some (([] : List GOut), 1)
 else d9 (qb7 g_0 feeds_0) rounds (0, (⟨g_0, (Prod.mk ([] : List GMean_point) ([] : List (Arr2 (List GItem)))), (Prod.mk ([] : List Int) ([] : List (List GCount))), (Prod.mk ([] : List GMean_point) ([] : List (List GItem))), 0, most_0, ([] : List GOut), 0⟩ : GMean_runner), [])))
theorem qr6 (g_0 : GGraph) (feeds_0 : List GFeed) (most_0 : Int)  (r : (List GOut) × Int) (h : q9y g_0 feeds_0 most_0 = some r) : DetS pp 9 [.agg (Row.row g_0), .sl 4 (enc feeds_0), .v (.int .i64 most_0)] [] 0 (.tup [.osl 0 4 (0) (r.1.length), .v (.int .i64 r.2)]) [(0, .arr 4 (enc r.1))] 1 := by
  unfold DetS; refine Spec.of_wp Tryz.func9 rfl (by kernel_rfl) (by kernel_rfl) ?_; rw [q9y] at h; refine sgW fun _ Q1 => ?_; refine wv ?_; simp only [go_sem]; refine y5 Q1 ?_; refine sgW fun _ Q2 => ?_; refine sgW fun _ Q3 => ?_; refine wv ?_; obtain ⟨v_0, ev_0, h⟩ := z8 h; simp only [go_sem]; refine q99 (z7d g_0 feeds_0 most_0 v_0 ev_0) (by rfl) (by rfl) ?_; simp only [go_sem]; refine y5 Q3 ?_; refine q3m (b := (!v_0)) (by (simp only [go_sem]; done)) (fun hb_0 => ?_) (fun hb_0 => ?_)
  ·
    replace h := q44 h hb_0; simp only [bool_to_prop] at hb_0; refine sgW fun _ Q4 => ?_; refine wv ?_; simp only [go_sem]; refine y5 Q4 ?_; refine wv ?_; refine q02 (ql3 Q2 ?_); simp only [go_sem]; obtain rfl := Option.some.inj h; refine q1s [none] ?_; simp only [go_sem, Le]
  ·
    replace h := q45 h hb_0; simp only [bool_to_prop] at hb_0; refine wv ?_; refine y7 (y5 Q2 ?_); refine sgW fun _ Q5 => ?_; refine q7e ?_; refine wv ?_; simp only [go_sem]; refine z0i 0 ?_ rfl z7w; simp only [go_sem]; refine z0i 1 ?_ rfl z7v; simp only [go_sem]; refine z0i 2 ?_ rfl z0q; simp only [go_sem]; refine q27 ?_; refine y5 Q5 ?_; refine sgW fun _ Q6 => ?_; refine wv ?_; simp only [go_sem]; refine y5 Q6 ?_; refine zi9 (ι := GMean_runner × (List Int)) (fun ((b_2, a_2) : GMean_runner × (List Int)) => (⟨0, [(3, .ptr 0 0), (8, .ptr 1 0), (9, .osl 2 1 (0) (a_2.length))], [(0, .box (Row.row g_0)), (1, .box [.sl 1 (enc b_2.g.Parent), .sl 1 (enc b_2.g.Bound), .sl 4 (enc b_2.g.Nodes), .sl 4 (enc b_2.g.Edges), .mp 3, .mp 4, .mp 5, .v (.int .i64 b_2.work), .v (.int .i64 b_2.most), .osl 6 4 (0) (b_2.outs.length), .v (.int .i64 b_2.e)]), (2, .arr 1 (enc a_2)), (3, .con (x8 pp 78 0 (u6 b_2.ins.1) (enc b_2.ins.2) none) []), (4, .con (x8 pp 3 1 (u6 b_2.past.1) (enc b_2.past.2) none) []), (5, .con (x8 pp 78 2 (u6 b_2.bags.1) (enc b_2.bags.2) none) []), (6, .arr 4 (enc b_2.outs))], 7, 86⟩ : St)) (fun ((b_2, a_2) : GMean_runner × (List Int)) => qk7 g_0 b_2 a_2 = some r) ?_ ?_
    ·
      intro _ Q22; refine sgW fun _ Q23 => ?_; refine wv ?_; simp only [go_sem]; refine y5 Q23 ?_; refine qb9 fun _ Q24 => ?_; refine z3y (ι := Nat × Int × GMean_runner × (List Int)) (fun ((_, t28_3, b_9, a_4) : Nat × Int × GMean_runner × (List Int)) => (⟨0, [(3, .ptr 0 0), (8, .ptr 1 0), (9, .osl 2 1 (0) (a_4.length)), (26, .sl 4 (enc feeds_0)), (27, .v (.int .i64 (feeds_0.length : Int))), (28, .v (.int .i64 t28_3))], [(0, .box (Row.row g_0)), (1, .box [.sl 1 (enc b_9.g.Parent), .sl 1 (enc b_9.g.Bound), .sl 4 (enc b_9.g.Nodes), .sl 4 (enc b_9.g.Edges), .mp 3, .mp 4, .mp 5, .v (.int .i64 b_9.work), .v (.int .i64 b_9.most), .osl 6 4 (0) (b_9.outs.length), .v (.int .i64 b_9.e)]), (2, .arr 1 (enc a_4)), (3, .con (x8 pp 78 0 (u6 b_9.ins.1) (enc b_9.ins.2) none) []), (4, .con (x8 pp 3 1 (u6 b_9.past.1) (enc b_9.past.2) none) []), (5, .con (x8 pp 78 2 (u6 b_9.bags.1) (enc b_9.bags.2) none) []), (6, .arr 4 (enc b_9.outs))], 7, 86⟩ : St)) (fun ((n_, t28_3, b_9, a_4) : Nat × Int × GMean_runner × (List Int)) => d9 (qb7 g_0 feeds_0) n_ (t28_3, b_9, a_4) = some r) (fun p => p.1) (rounds, 0, (⟨g_0, (Prod.mk ([] : List GMean_point) ([] : List (Arr2 (List GItem)))), (Prod.mk ([] : List Int) ([] : List (List GCount))), (Prod.mk ([] : List GMean_point) ([] : List (List GItem))), 0, most_0, ([] : List GOut), 0⟩ : GMean_runner), []) [some 0, some 4, none, some 1, some 2, some 3, none] ?_ h ?_
      · simp only [go_sem, Le] <;> (repeat' apply And.intro) <;> (try with_reducible refine q03 ?_) <;> first | omega | (simp [go_sem]; done) | ((try with_reducible refine q03 ?_); (simp [enc]; rfl))
      · rintro ⟨n_4, t28_3, b_9, a_4⟩ h _ Q25
        dsimp only at h; replace h := q9o h; obtain ⟨m_4, rfl, h⟩ := h; rw [qb7] at h; refine sgW fun _ Q26 => ?_; refine wv ?_; simp only [go_sem]; refine y5 Q26 ?_; refine sgW fun _ Q27 => ?_; refine q3m (b := (decide (t28_3 < (feeds_0.length : Int)))) (by (simp only [go_sem]; done)) (fun hb_13 => ?_) (fun hb_13 => ?_)
        ·
          replace h := q44 h hb_13; simp only [bool_to_prop] at hb_13; refine wv ?_; refine y7 (y5 Q27 ?_); refine sgW fun _ Q28 => ?_; refine qb9 fun _ Q29 => ?_; refine sgW fun _ Q30 => ?_; refine wv ?_; obtain ⟨xv_11, ex11, h⟩ := z8 h; obtain ⟨f11a, f11b, f11c⟩ := ql6 ex11; simp only [go_sem, f11a, f11b, f11c]; refine And.intro (by omega) ?_; refine y5 Q30 ?_; refine sgW fun _ Q31 => ?_; refine wv ?_; have rf_13 : [[.v (.int .i64 xv_11.Epoch)]] = enc ([xv_11.Epoch] : List Int) := by rfl
          obtain ⟨g_8, h⟩ := q09 h; simp only [List.length_cons, List.length_nil, Nat.zero_add, List.length_append] at g_8; have rf_14 : enc a_4 ++ [[.v (.int .i64 xv_11.Epoch)]] = enc (a_4 ++ ([xv_11.Epoch] : List Int)) := by exact (q4x a_4 ([xv_11.Epoch] : List Int)).symm
          simp only [go_sem, g_8, rf_14]; simp only [rf_13]; refine y5 Q31 ?_; refine wv ?_; have rf_15 : [[.v (.int .i64 xv_11.Rec.K), .v (.int .i64 xv_11.Rec.V), .v (.int .i64 1)]] = enc ([(⟨xv_11.Rec, 1⟩ : GItem)] : List GItem) := by rfl
          obtain ⟨v_16, ev_16, h⟩ := z8 h; simp only [go_sem]; simp only [rf_15]; refine qi9 (s' := (⟨0, [(3, .ptr 0 0), (8, .ptr 1 0), (9, .osl 8 1 (0) (List.length (a_4 ++ ([xv_11.Epoch] : List Int)))), (26, .sl 4 (enc feeds_0)), (27, .v (.int .i64 (feeds_0.length : Int))), (28, .v (.int .i64 t28_3))], [(0, .box (Row.row g_0)), (1, .box [.sl 1 (enc b_9.g.Parent), .sl 1 (enc b_9.g.Bound), .sl 4 (enc b_9.g.Nodes), .sl 4 (enc b_9.g.Edges), .mp 2, .mp 3, .mp 4, .v (.int .i64 b_9.work), .v (.int .i64 b_9.most), .osl 5 4 (0) (b_9.outs.length), .v (.int .i64 b_9.e)]), (2, .con (x8 pp 78 0 (u6 b_9.ins.1) (enc b_9.ins.2) none) []), (3, .con (x8 pp 3 1 (u6 b_9.past.1) (enc b_9.past.2) none) []), (4, .con (x8 pp 78 2 (u6 b_9.bags.1) (enc b_9.bags.2) none) []), (5, .arr 4 (enc b_9.outs)), (6, .box (Row.row xv_11)), (7, .arr 1 (enc ([xv_11.Epoch] : List Int))), (8, .arr 1 (enc (a_4 ++ ([xv_11.Epoch] : List Int))))], 9, 86⟩ : St)) (l := [some 0, some 1, some 3, some 4, some 5, some 6, some 7, some 8, some 9]) (args' := [.ptr 1 0, .v (.int .i64 xv_11.Node), .v (.int .i64 0), .agg [.v (.int .i64 1), .v (.int .i64 xv_11.Epoch), .v (.int .i64 0), .v (.int .i64 0), .v (.int .i64 0)], .sl 3 (enc ([(⟨xv_11.Rec, 1⟩ : GItem)] : List GItem))]) ?_ ?_ ?_
          · simp only [go_sem, Le] <;> (repeat' apply And.intro) <;> (try with_reducible refine q03 ?_) <;> first | omega | (simp [go_sem]; done)
          · simp only [go_sem, Le] <;> (repeat' apply And.intro) <;> ((try with_reducible refine q03 ?_); (simp [go_sem]; done))
          refine q5t [1, 2, 3, 4, 5] (q8s b_9 xv_11.Node 0 (⟨1, (⟨xv_11.Epoch, 0, 0, 0⟩ : Arr4 Int)⟩ : GTime) ([(⟨xv_11.Rec, 1⟩ : GItem)] : List GItem) v_16 ev_16) (by simp) rfl ⟨rfl, ⟨rfl, ⟨rfl, ⟨rfl, ⟨rfl, trivial⟩⟩⟩⟩⟩ rfl rfl rfl rfl ?_; simp only [go_sem]; refine q04 Q29 (y5 Q28 ?_); refine wv ?_; simp only [go_sem]; refine x9 Q25 (⟨(m_4, i64.wrap (t28_3 + 1), v_16, (a_4 ++ ([xv_11.Epoch] : List Int))), [some 0, some 1, some 8, some 2, some 3, some 4, some 9], ?_, h, Nat.lt_succ_self _⟩); simp only [go_sem, Le] <;> (repeat' apply And.intro) <;> (try with_reducible refine q03 ?_) <;> first | omega | (simp [go_sem]; done)
        ·
          replace h := q45 h hb_13; simp only [bool_to_prop] at hb_13; refine wv ?_; refine q0s (qm2 Q27 ?_); refine q0t Q25 (q0k Q24 (x9 Q22 (⟨(b_9, a_4), [some 0, some 1, some 2, some 3, some 4, some 5, some 6], ?_, h⟩))); simp only [go_sem, Le] <;> (repeat' apply And.intro) <;> (try with_reducible refine q03 ?_) <;> first | omega | (simp [go_sem]; done)
    · rintro ⟨b_2, a_2⟩ h
      try dsimp only at h
      rw [qk7] at h; refine sgW fun _ Q7 => ?_; refine wv ?_; obtain ⟨v_4, ev_4, h⟩ := z8 h; simp only [go_sem]; refine q5t [2] (qu1 a_2 v_4 ev_4) (by simp) rfl ⟨rfl, trivial⟩ rfl rfl rfl rfl ?_; obtain ⟨g_4, h⟩ := q09 h; simp only [go_sem, g_4]; refine y5 Q7 ?_; refine zi9 (ι := GMean_runner) (fun (b_5 : GMean_runner) => (⟨0, [(8, .ptr 0 0)], [(0, .box [.sl 1 (enc b_5.g.Parent), .sl 1 (enc b_5.g.Bound), .sl 4 (enc b_5.g.Nodes), .sl 4 (enc b_5.g.Edges), .mp 1, .mp 2, .mp 3, .v (.int .i64 b_5.work), .v (.int .i64 b_5.most), .osl 4 4 (0) (b_5.outs.length), .v (.int .i64 b_5.e)]), (1, .con (x8 pp 78 0 (u6 b_5.ins.1) (enc b_5.ins.2) none) []), (2, .con (x8 pp 3 1 (u6 b_5.past.1) (enc b_5.past.2) none) []), (3, .con (x8 pp 78 2 (u6 b_5.bags.1) (enc b_5.bags.2) none) []), (4, .arr 4 (enc b_5.outs))], 5, 86⟩ : St)) (fun (b_5 : GMean_runner) => qb6 b_5 = some r) ?_ ?_
      ·
        intro _ Q13; refine sgW fun _ Q14 => ?_; refine wv ?_; obtain ⟨v_10, ev_10, h⟩ := z8 h; simp only [go_sem]; refine qi9 (s' := (⟨0, [(3, .ptr 0 0), (8, .ptr 1 0)], [(0, .box (Row.row g_0)), (1, .box [.sl 1 (enc b_2.g.Parent), .sl 1 (enc b_2.g.Bound), .sl 4 (enc b_2.g.Nodes), .sl 4 (enc b_2.g.Edges), .mp 3, .mp 4, .mp 5, .v (.int .i64 b_2.work), .v (.int .i64 b_2.most), .osl 6 4 (0) (b_2.outs.length), .v (.int .i64 b_2.e)]), (2, .arr 1 (enc v_4)), (3, .con (x8 pp 78 0 (u6 b_2.ins.1) (enc b_2.ins.2) none) []), (4, .con (x8 pp 3 1 (u6 b_2.past.1) (enc b_2.past.2) none) []), (5, .con (x8 pp 78 2 (u6 b_2.bags.1) (enc b_2.bags.2) none) []), (6, .arr 4 (enc b_2.outs))], 7, 86⟩ : St)) (l := [some 0, some 1, some 2, some 3, some 4, some 5, some 6]) (args' := [.osl 2 1 (0) (v_4.length)]) ?_ ?_ ?_
        · simp only [go_sem, Le] <;> (repeat' apply And.intro) <;> (try with_reducible refine q03 ?_) <;> first | omega | (simp [go_sem]; done)
        · simp only [go_sem, Le] <;> (repeat' apply And.intro) <;> ((try with_reducible refine q03 ?_); omega)
        refine q5t [2] (qq2 v_4 v_10 ev_10) (by simp) rfl ⟨rfl, trivial⟩ rfl rfl rfl rfl ?_; simp only [go_sem]; refine y5 Q14 ?_; refine qb9 fun _ Q15 => ?_; refine z3y (ι := Nat × Int × GMean_runner) (fun ((_, t55_3, b_7) : Nat × Int × GMean_runner) => (⟨0, [(3, .ptr 0 0), (8, .ptr 1 0), (53, .osl 2 1 (0) (v_10.length)), (54, .v (.int .i64 (v_10.length : Int))), (55, .v (.int .i64 t55_3))], [(0, .box (Row.row g_0)), (1, .box [.sl 1 (enc b_7.g.Parent), .sl 1 (enc b_7.g.Bound), .sl 4 (enc b_7.g.Nodes), .sl 4 (enc b_7.g.Edges), .mp 3, .mp 4, .mp 5, .v (.int .i64 b_7.work), .v (.int .i64 b_7.most), .osl 6 4 (0) (b_7.outs.length), .v (.int .i64 b_7.e)]), (2, .arr 1 (enc v_10)), (3, .con (x8 pp 78 0 (u6 b_7.ins.1) (enc b_7.ins.2) none) []), (4, .con (x8 pp 3 1 (u6 b_7.past.1) (enc b_7.past.2) none) []), (5, .con (x8 pp 78 2 (u6 b_7.bags.1) (enc b_7.bags.2) none) []), (6, .arr 4 (enc b_7.outs))], 7, 86⟩ : St)) (fun ((n_, t55_3, b_7) : Nat × Int × GMean_runner) => d9 (qb8 g_0 v_10) n_ (t55_3, b_7) = some r) (fun p => p.1) (rounds, 0, b_2) [some 0, some 1, some 2, some 3, some 4, some 5, some 6] ?_ h ?_
        · simp only [go_sem, Le] <;> (repeat' apply And.intro) <;> (try with_reducible refine q03 ?_) <;> first | omega | (simp [go_sem]; done)
        · rintro ⟨n_3, t55_3, b_7⟩ h _ Q16
          dsimp only at h; replace h := q9o h; obtain ⟨m_3, rfl, h⟩ := h; rw [qb8] at h; refine sgW fun _ Q17 => ?_; refine wv ?_; simp only [go_sem]; refine y5 Q17 ?_; refine sgW fun _ Q18 => ?_; refine q3m (b := (decide (t55_3 < (v_10.length : Int)))) (by (simp only [go_sem]; done)) (fun hb_10 => ?_) (fun hb_10 => ?_)
          ·
            replace h := q44 h hb_10; simp only [bool_to_prop] at hb_10; refine wv ?_; refine y7 (y5 Q18 ?_); refine sgW fun _ Q19 => ?_; refine qb9 fun _ Q20 => ?_; refine sgW fun _ Q21 => ?_; refine wv ?_; obtain ⟨xv_8, ex8, h⟩ := z8 h; obtain ⟨f8a, f8b, f8c⟩ := ql6 ex8; simp only [go_sem, f8a, f8b, f8c]; refine And.intro (by omega) ?_; refine y5 Q21 ?_; refine wv ?_; obtain ⟨v_13, ev_13, h⟩ := z8 h; simp only [go_sem]; refine q5t [1, 3, 4, 5, 6] (qn3 b_7 0 (g_0.Nodes.length : Int) 0 (⟨1, (⟨xv_8, 0, 0, 0⟩ : Arr4 Int)⟩ : GTime) v_13 ev_13) (by simp) rfl ⟨rfl, ⟨rfl, ⟨rfl, ⟨rfl, ⟨rfl, trivial⟩⟩⟩⟩⟩ rfl rfl rfl rfl ?_; simp only [go_sem]; refine q04 Q20 (y5 Q19 ?_); refine wv ?_; simp only [go_sem]; refine x9 Q16 (⟨(m_3, i64.wrap (t55_3 + 1), v_13.2), [some 0, some 1, some 2, some 3, some 4, some 5, some 7], ?_, h, Nat.lt_succ_self _⟩); simp only [go_sem, Le] <;> (repeat' apply And.intro) <;> (try with_reducible refine q03 ?_) <;> first | omega | (simp [go_sem]; done)
          ·
            replace h := q45 h hb_10; simp only [bool_to_prop] at hb_10; refine wv ?_; refine q0s (qm2 Q18 ?_); refine q0t Q16 (q0k Q15 (x9 Q13 (⟨b_7, [some 1, some 3, some 4, some 5, some 6], ?_, h⟩))); simp only [go_sem, Le] <;> (repeat' apply And.intro) <;> (try with_reducible refine q03 ?_) <;> first | omega | (simp [go_sem]; done)
      · rintro b_5 h
        try dsimp only at h
        rw [qb6] at h; refine sgW fun _ Q8 => ?_; refine sgW fun _ Q9 => ?_; refine wv ?_; simp only [go_sem]; refine y5 Q9 ?_; refine q3m (b := (!(b_5.e == 0))) (by (simp only [go_sem]; done)) (fun hb_7 => ?_) (fun hb_7 => ?_)
        ·
          replace h := q44 h hb_7; simp only [bool_to_prop] at hb_7; refine sgW fun _ Q10 => ?_; refine wv ?_; refine q07 ?_; refine j8g ?_; simp only [go_sem]; refine y5 Q10 ?_; refine wv ?_; refine q02 (ql3 Q8 ?_); simp only [go_sem]; obtain rfl := Option.some.inj h; refine q1s [none] ?_; simp only [go_sem, Le]
        ·
          replace h := q45 h hb_7; simp only [bool_to_prop] at hb_7; refine wv ?_; refine y7 (y5 Q8 ?_); refine sgW fun _ Q11 => ?_; refine wv ?_; obtain ⟨v_9, ev_9, h⟩ := z8 h; simp only [go_sem]; refine q5t [4] (qg0 b_5.outs (fun x0_ x1_ => q5g x0_ x1_) 21 [] (by rfl) (by kernel_rfl) (fun y0 y1 r_ e_ => z7e y0 y1 r_ e_) v_9 ev_9) (by simp) rfl ⟨rfl, trivial⟩ rfl rfl rfl rfl ?_; obtain ⟨g_5, h⟩ := q09 h; simp only [go_sem, g_5]; refine y5 Q11 ?_; refine sgW fun _ Q12 => ?_; refine wv ?_; simp only [go_sem]; refine y5 Q12 ?_; refine wv ?_; refine q02 ?_; simp only [go_sem]; obtain rfl := Option.some.inj h; refine q1s [some 4] ?_; simp only [go_sem, Le] <;> (repeat' apply And.intro) <;> ((try with_reducible refine q03 ?_); omega)
def q6a (a_0 : List GOut) (b_0 : List GOut) (rec_1 : Int → Option Bool) : Int → Option Bool :=
 fun i_1 =>
 (if (decide (i_1 < (a_0.length : Int))) = true then q9 (idx a_0 i_1) (fun xv_4 =>
 q9 (idx b_0 i_1) (fun xv_5 =>
 (if (!((xv_4.Node == xv_5.Node) && ((xv_4.Epoch == xv_5.Epoch) && ((xv_4.Rec.K == xv_5.Rec.K) && (xv_4.Rec.V == xv_5.Rec.V))))) = true then some false
 else rec_1 (i64.wrap (i_1 + 1)))))
 else some true)
def q64 (a_0 : List GOut) (b_0 : List GOut) : Option Bool :=
 (if (!((a_0.length : Int) == (b_0.length : Int))) = true then some false
 else d9 (q6a a_0 b_0) rounds 0)
instance zl3 (a_0 : List GOut) (b_0 : List GOut) : Ct pp 10 (q64 a_0 b_0) [.sl 4 (enc a_0), .sl 4 (enc b_0)] fun r => (.v (.bool r)) := ctK Tryz.func10 rfl (by rw [q64]) (by
 intro r h F; refine sM ?_; refine sg fun _ Q2 => ?_; refine sM ?_; refine sB h (fun _ h => ?_) fun _ h => ?_
 · exact au
 · refine y7 (q8 Q2 (jg fun _ Q5 => ?_)); refine sM ?_; refine w9 fun _ Q7 => ?_; refine q0n h [0, 1] (fun i_1 => ([(5, .v (.int .i64 i_1))], [])) 0 ?_; rintro m_1 i_1 h _ Q8; rw [q6a] at h; exact au)
def q65 (g_0 : GGraph) (rec_1 : Int → Option Bool) : Int → Option Bool :=
 fun i_1 =>
 (if (decide (i_1 < (g_0.Nodes.length : Int))) = true then q9 (idx g_0.Nodes i_1) (fun xv_2 =>
 (if (decide (100 < (xv_2.Prog.length : Int))) = true then some false
 else rec_1 (i64.wrap (i_1 + 1))))
 else some true)
def q36 (g_0 : GGraph) : Option Bool :=
 (if ((((decide (20 < (g_0.Parent.length : Int))) || (decide (20 < (g_0.Bound.length : Int)))) || (decide (60 < (g_0.Nodes.length : Int)))) || (decide (100 < (g_0.Edges.length : Int)))) = true then some false
 else d9 (q65 g_0) rounds 0)
instance zh6 (g_0 : GGraph) : Ct pp 14 (q36 g_0) [.agg (Row.row g_0)] fun r => (.v (.bool r)) := ctK Tryz.func14 rfl (by rw [q36]) (by
 intro r h F; refine sM ?_; refine sg fun _ Q2 => ?_; refine sM ?_; refine sB h (fun _ h => ?_) fun _ h => ?_
 · exact au
 · refine y7 (q8 Q2 (jg fun _ Q5 => ?_)); refine sM ?_; refine w9 fun _ Q7 => ?_; refine q0n h [1] (fun i_1 => ([(3, .v (.int .i64 i_1))], [(0, .box (Row.row g_0))])) 1 ?_; rintro m_1 i_1 h _ Q8; rw [q65] at h; exact au)
def q75  : Option Bool :=
 q9 (q9y (⟨([-1] : List Int), ([0] : List Int), ([(⟨1, 0, 0, ([] : List GIns)⟩ : GNode), (⟨3, 0, 5, ([] : List GIns)⟩ : GNode), (⟨15, 0, 0, ([] : List GIns)⟩ : GNode)] : List GNode), ([(⟨0, 1, 0, false⟩ : GEdge), (⟨1, 2, 0, false⟩ : GEdge)] : List GEdge)⟩ : GGraph) ([(⟨0, 3, (⟨1, 2⟩ : GRec)⟩ : GFeed)] : List GFeed) 9) (fun v_0 =>
 (if ((v_0.2 == 0) && ((v_0.1.length : Int) == 1)) = true then q9 (idx v_0.1 0) (fun xv_0 =>
 some ((xv_0.Node == 2) && ((xv_0.Epoch == 3) && ((xv_0.Rec.K == 1) && (xv_0.Rec.V == 7)))))
 else some false))
instance zh8  : Ct pp 7 (q75 ) [] fun r => (.v (.bool r)) := ctK Tryz.func7 rfl (by rw [q75]) (by
 intro r h F; refine sM ?_; refine sg fun _ Q2 => ?_; have rf_0 : [[.v (.int .i64 (-1))]] = enc ([-1] : List Int) := by rfl
 have rf_1 : [[.v (.int .i64 0)]] = enc ([0] : List Int) := by rfl
 have rf_2 : [[.v (.int .i64 1), .v (.int .i64 0), .v (.int .i64 0), .sl 2 (enc ([] : List GIns))], [.v (.int .i64 3), .v (.int .i64 0), .v (.int .i64 5), .sl 2 (enc ([] : List GIns))], [.v (.int .i64 15), .v (.int .i64 0), .v (.int .i64 0), .sl 2 (enc ([] : List GIns))]] = enc ([(⟨1, 0, 0, ([] : List GIns)⟩ : GNode), (⟨3, 0, 5, ([] : List GIns)⟩ : GNode), (⟨15, 0, 0, ([] : List GIns)⟩ : GNode)] : List GNode) := by rfl
 have rf_2n := rf_2; simp only [q67] at rf_2n; have rf_3 : [[.v (.int .i64 0), .v (.int .i64 1), .v (.int .i64 0), .v (.bool false)], [.v (.int .i64 1), .v (.int .i64 2), .v (.int .i64 0), .v (.bool false)]] = enc ([(⟨0, 1, 0, false⟩ : GEdge), (⟨1, 2, 0, false⟩ : GEdge)] : List GEdge) := by rfl
 simp only [go_sem]; simp only [rf_0, rf_1, rf_2n, rf_2, rf_3]; refine q8 Q2 (sg fun _ Q3 => ?_); have rf_4 : [[.v (.int .i64 0), .v (.int .i64 3), .v (.int .i64 1), .v (.int .i64 2)]] = enc ([(⟨0, 3, (⟨1, 2⟩ : GRec)⟩ : GFeed)] : List GFeed) := by rfl
 obtain ⟨v_0, ev_0, h⟩ := z8 h; simp only [go_sem]; simp only [rf_4]; refine q9l [] ([], [(0, .box [.sl 1 (enc ([-1] : List Int)), .sl 1 (enc ([0] : List Int)), .sl 4 (enc ([(⟨1, 0, 0, ([] : List GIns)⟩ : GNode), (⟨3, 0, 5, ([] : List GIns)⟩ : GNode), (⟨15, 0, 0, ([] : List GIns)⟩ : GNode)] : List GNode)), .sl 4 (enc ([(⟨0, 1, 0, false⟩ : GEdge), (⟨1, 2, 0, false⟩ : GEdge)] : List GEdge))])]) 1 [some 4] [.agg [.sl 1 (enc ([-1] : List Int)), .sl 1 (enc ([0] : List Int)), .sl 4 (enc ([(⟨1, 0, 0, ([] : List GIns)⟩ : GNode), (⟨3, 0, 5, ([] : List GIns)⟩ : GNode), (⟨15, 0, 0, ([] : List GIns)⟩ : GNode)] : List GNode)), .sl 4 (enc ([(⟨0, 1, 0, false⟩ : GEdge), (⟨1, 2, 0, false⟩ : GEdge)] : List GEdge))], .sl 4 (enc ([(⟨0, 3, (⟨1, 2⟩ : GRec)⟩ : GFeed)] : List GFeed)), .v (.int .i64 9)] ?_; refine q1o [] (qr6 (⟨([-1] : List Int), ([0] : List Int), ([(⟨1, 0, 0, ([] : List GIns)⟩ : GNode), (⟨3, 0, 5, ([] : List GIns)⟩ : GNode), (⟨15, 0, 0, ([] : List GIns)⟩ : GNode)] : List GNode), ([(⟨0, 1, 0, false⟩ : GEdge), (⟨1, 2, 0, false⟩ : GEdge)] : List GEdge)⟩ : GGraph) ([(⟨0, 3, (⟨1, 2⟩ : GRec)⟩ : GFeed)] : List GFeed) 9 v_0 ev_0) ?_; simp only [go_sem]; exact au)
def q74 (g_0 : GGraph) (feeds_0 : List GFeed) : Option Bool :=
 q9 (q36 g_0) (fun v_0 =>
 some (v_0 && (decide ((feeds_0.length : Int) ≤ 40))))
instance zh7 (g_0 : GGraph) (feeds_0 : List GFeed) : Ct pp 8 (q74 g_0 feeds_0) [.agg (Row.row g_0), .sl 4 (enc feeds_0)] fun r => (.v (.bool r)) := ctI Tryz.func8 rfl (by rw [q74]; exact au1)
end Go.Proofs.YteibkihbdgphnaaGreat
