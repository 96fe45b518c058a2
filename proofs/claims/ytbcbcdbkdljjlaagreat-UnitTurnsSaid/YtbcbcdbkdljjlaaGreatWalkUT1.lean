/-
  What functions of the program compute, each told as a plain function that may give nothing, with the proof that the code does so. No condition beyond those that each theorem names.
-/
import Derived.Test.YtbcbcdbkdljjlaaGreatWalkUT0
import Derived.Test.YtbcbcdbkdljjlaaGreatLibI
set_option linter.unusedSimpArgs false
set_option linter.unusedVariables false
set_option linter.unusedSectionVars false
set_option maxHeartbeats 2000000
set_option maxRecDepth 100000
namespace Go.Proofs.YtbcbcdbkdljjlaaGreat
open Go Go.RowKit
open Go.IntKind (i64)
def q60 (s_0 : List GSlot) : Option (List GSlot) :=
 q0v ((List.length ([] : List GSlot) + List.length s_0) * 120 ≤ 140737488355328) (
 some (([] : List GSlot) ++ s_0))
theorem q96 (s_0 : List GSlot)  (r : List GSlot) (h : q60 s_0 = some r) : DetS Tryz.prog 141 [.sl 10 (enc s_0)] [] 0 (.osl 0 10 (0) (List.length r)) [(0, .arr 10 (enc r))] 1 := by
 unfold DetS; refine Spec.of_vc Tryz.func141 rfl (by kernel_rfl) (by kernel_rfl) ?_; rw [q60] at h; refine sg fun _ Q1 => ?_; simp only [go_sem]; refine q8 Q1 (sg fun _ Q2 => ?_); refine sg fun _ Q3 => ?_; simp only [go_sem]; intro nb_0 hnb_0; rcases nb_0 with _ | _
 ·
  refine q8 Q3 ?_; refine q55 (by (simp only [go_sem]; done)) ?_; refine j4 (q8 Q2 (sg fun _ Q4 => ?_)); obtain ⟨g_0, h⟩ := q0k h; simp only [List.length_cons, List.length_nil, Nat.zero_add, List.length_append] at g_0; have rf_0 : enc ([] : List GSlot) ++ enc s_0 = enc (([] : List GSlot) ++ s_0) := by exact (q6a ([] : List GSlot) s_0).symm
  simp only [go_sem, g_0, rf_0]; refine q8 Q4 (z8 ?_); simp only [go_sem]; obtain rfl := Option.some.inj h; refine q0e [some 1] ?_; simp only [go_sem, Le]
 ·
  have hE_nb_0 : s_0 = [] := by cases hq : (s_0) with | nil => rfl | cons y ys => exact absurd (hnb_0 (by rw [hq]; simp [enc])) (by simp)
  simp only [hE_nb_0] at h; refine q8 Q3 ?_; refine q0o (by (simp only [go_sem]; done)) ?_; refine sg fun _ Q5 => ?_; simp only [go_sem]; refine q8 Q5 (z8 (y5 Q2 ?_)); simp only [go_sem]; obtain rfl := Option.some.inj h; refine q0e [none] ?_; simp only [go_sem, Le] <;> (repeat' apply And.intro) <;> ((try with_reducible refine x8 ?_); (simp [go_sem]; done))
def q6h (x_0 : List GSlot) (i_0 : Int) (v_0 : List GSlot) : Option (List GSlot) := qk7 120 x_0 i_0 v_0
theorem q9d : InsLay Tryz.prog (qw4 165 209 210 0 3 4 157 88) 10 120 (.agg #[.int .i64 0, .int .i64 0, .int .i64 0, .int .i64 0, .int .i64 0, .slice none 0 0, .slice none 0 0, .slice none 0 0, .bool false, .bool false] : Value) := { mixed := by kernel_rfl, t0 := Tryz.underlying0, a0 := Tryz.isAgg0, z0 := Tryz.sizeOf0, v0 := Tryz.zeroValue0, t3 := Tryz.underlying3, a3 := Tryz.isAgg3, z3 := Tryz.sizeOf3, v3 := Tryz.zeroValue3, t4 := Tryz.underlying4, a4 := Tryz.isAgg4, z4 := Tryz.sizeOf4, v4 := Tryz.zeroValue4, t24 := Tryz.underlying88, a24 := Tryz.isAgg88, z24 := Tryz.sizeOf88, v24 := Tryz.zeroValue88, z9 := Tryz.sizeOf157, i9 := qy2 (by kernel_rfl), f22 := ⟨"slices.Insert[[]backwash/api.Slot,backwash/api.Slot]", by decide, by kernel_rfl⟩, ov := ⟨_, Tryz.func209, by kernel_rfl, by kernel_rfl, by kernel_rfl, by kernel_rfl⟩ }
theorem q9e (x_0 : List GSlot) (i_0 : Int) (v_0 : List GSlot) (r : List GSlot) (h : q6h x_0 i_0 v_0 = some r) : DetS Tryz.prog 165 [.osl 0 10 0 (List.length x_0), .v (.int .i64 i_0), .osl 1 10 0 (List.length v_0)] [(0, .arr 10 (enc x_0)), (1, .arr 10 (enc v_0))] 2 (.osl 2 10 0 (List.length r)) [(2, .arr 10 (enc r))] 3 :=
 qt2 q9d (by kernel_rfl) (by kernel_rfl) (by decide) (by rfl) (by decide) rfl (fun _ => rfl) h

def q85 (c_0 : List GSlot) (kind_0 : Int) (atv_0 : Int) (rec_1 : Bool × Int × (List GSlot) → Option (Bool × (List GSlot))) : Bool × Int × (List GSlot) → Option (Bool × (List GSlot)) :=
 fun (straggler_1, t11_1, a_1) =>
 (if (decide (t11_1 < (List.length c_0 : Int))) = true then (if (t11_1 == atv_0) = true then (if straggler_1 = true then j6 (idx a_1 t11_1) (fun (xv_10 : GSlot) =>
 rec_1 (true, i64.wrap (t11_1 + 1), (List.set a_1 (Int.toNat t11_1) (⟨xv_10.Time, xv_10.In, xv_10.Sent, true, xv_10.Fired⟩ : GSlot))))
 else j6 (idx a_1 t11_1) (fun (xv_9 : GSlot) =>
 (if xv_9.Fired = true then rec_1 ((!xv_9.Dirty), i64.wrap (t11_1 + 1), (List.set a_1 (Int.toNat t11_1) (⟨xv_9.Time, xv_9.In, xv_9.Sent, true, xv_9.Fired⟩ : GSlot)))
 else rec_1 (false, i64.wrap (t11_1 + 1), (List.set a_1 (Int.toNat t11_1) (⟨xv_9.Time, xv_9.In, xv_9.Sent, true, xv_9.Fired⟩ : GSlot))))))
 else (if (kind_0 == 14) = true then j6 (idx a_1 atv_0) (fun (xv_7 : GSlot) =>
 j6 (idx a_1 t11_1) (fun (xv_8 : GSlot) =>
 j6 (qe9 xv_7.Time xv_8.Time) (fun (v_2 : Bool) =>
 (if (!v_2) = true then rec_1 (straggler_1, i64.wrap (t11_1 + 1), a_1)
 else (if straggler_1 = true then rec_1 (true, i64.wrap (t11_1 + 1), (List.set a_1 (Int.toNat t11_1) (⟨xv_8.Time, xv_8.In, xv_8.Sent, true, xv_8.Fired⟩ : GSlot)))
 else (if xv_8.Fired = true then rec_1 ((!xv_8.Dirty), i64.wrap (t11_1 + 1), (List.set a_1 (Int.toNat t11_1) (⟨xv_8.Time, xv_8.In, xv_8.Sent, true, xv_8.Fired⟩ : GSlot)))
 else rec_1 (false, i64.wrap (t11_1 + 1), (List.set a_1 (Int.toNat t11_1) (⟨xv_8.Time, xv_8.In, xv_8.Sent, true, xv_8.Fired⟩ : GSlot)))))))))
 else rec_1 (straggler_1, i64.wrap (t11_1 + 1), a_1)))
 else some (straggler_1, a_1))
def qa4 (c_0 : List GSlot) (kind_0 : Int) (atv_0 : Int) : Option (Bool × (List GSlot)) :=
 p9 (q85 c_0 kind_0 atv_0) rounds (false, 0, c_0)
theorem qt7 (c_0 : List GSlot) (kind_0 : Int) (atv_0 : Int)  (r : Bool × (List GSlot)) (h : qa4 c_0 kind_0 atv_0 = some r) : DetS Tryz.prog 167 [.osl 0 10 (0) (List.length c_0), .v (.int .i64 kind_0), .v (.int .i64 atv_0)] [(0, .arr 10 (enc c_0))] 1 (.v (.bool r.1)) [(0, .arr 10 (enc r.2))] 1 := by
 unfold DetS; refine Spec.of_vc Tryz.func167 rfl (by kernel_rfl) (by kernel_rfl) ?_; rw [qa4] at h; refine sg fun _ Q1 => ?_; simp only [go_sem]; refine q8 Q1 (sg fun _ Q2 => ?_); simp only [go_sem]; refine q8 Q2 (q0a (by kernel_rfl) ?_); refine q0c ?_; intro _ Q3; refine sg fun _ Q4 => ?_; simp only [go_sem]; refine q8 Q4 (y7 ?_); intro _ Q5; refine q06 ?_; refine q0g (ι := Nat × Bool × Int × (List GSlot)) (fun ((_, straggler_1, t11_1, a_1) : Nat × Bool × Int × (List GSlot)) => (⟨1, [(0, .osl 0 10 (0) (List.length a_1)), (1, .v (.int .i64 kind_0)), (2, .v (.int .i64 atv_0)), (7, .v (.bool straggler_1)), (10, .v (.int .i64 (List.length c_0 : Int))), (11, .v (.int .i64 t11_1))], [(0, .arr 10 (enc a_1))], 1, 57⟩ : St)) (fun ((n_, straggler_1, t11_1, a_1) : Nat × Bool × Int × (List GSlot)) => p9 (q85 c_0 kind_0 atv_0) n_ (straggler_1, t11_1, a_1) = some r) (fun p => p.1) (rounds, false, 0, c_0) [] ?_ h ?_
 · simp only [go_sem, Le]
 ·
  rintro ⟨n_1, straggler_1, t11_1, a_1⟩ h _ Q6; dsimp only at h; replace h := q08 h; obtain ⟨m_1, rfl, h⟩ := h; rw [q85] at h; refine sg fun _ Q7 => ?_; simp only [go_sem]; refine q8 Q7 (sg fun _ Q8 => ?_); refine j3 (b := (decide (t11_1 < (List.length c_0 : Int)))) (by (simp only [go_sem]; done)) (fun hb_14 => ?_) (fun hb_14 => ?_)
  ·
   replace h := x9 h hb_14; simp only [bool_to_prop] at hb_14; refine j4 (q8 Q8 (sg fun _ Q9 => ?_)); refine y7 ?_; intro _ Q10; refine sg fun _ Q11 => ?_; simp only [go_sem]; refine q8 Q11 (sg fun _ Q12 => ?_); refine sg fun _ Q13 => ?_; refine q0q ?_; refine q0l 17 [0, 0, 3, 7, 15, 31, 63, 127, 127, 511, 1023, 2047, 127, 127, 12415, 28799, 61567, 131071, 262143, 524287, 1048575] mixed (by kernel_rfl) (of_decide_eq_true (by kernel_rfl)) (by kernel_rfl) ?_; simp only [go_sem]; rcases hb_15 : (t11_1 == atv_0) with _ | _
   ·
    replace h := u6 h hb_15; simp only [go_sem, hb_15]; rcases hb_16 : (kind_0 == 14) with _ | _
    · replace h := u6 h hb_16; simp only [go_sem, hb_16]; refine q8 Q13 ?_; refine q0o (by (simp only [go_sem]; done)) ?_; refine q03 (q09 Q12 (d9 Q10 (q8 Q9 ?_))); simp only [go_sem]; refine w9 Q6 (⟨(m_1, straggler_1, i64.wrap (t11_1 + 1), a_1), [], ?_, h, Nat.lt_succ_self _⟩); simp only [go_sem, Le]
    ·
     replace h := x9 h hb_16; obtain ⟨xv_7, ex7, h⟩ := q9 h; obtain ⟨f7a, f7b, f7c⟩ := u7 ex7; obtain ⟨xv_8, ex8, h⟩ := q9 h; obtain ⟨f8a, f8b, f8c⟩ := u7 ex8; obtain ⟨v_2, ev_2, h⟩ := q9 h; simp only [go_sem, hb_16, f7a, f7b, f7c, f8a, f8b, f8c]; refine And.intro (by omega) ?_; refine And.intro (by omega) ?_; refine q0f (qt6 xv_7.Time xv_8.Time v_2 ev_2) (by rfl) (by rfl) ?_; simp only [go_sem]; refine q8 Q13 ?_; refine j3 (b := (!v_2)) (by (simp only [go_sem]; done)) (fun hb_17 => ?_) (fun hb_17 => ?_)
     · replace h := x9 h hb_17; simp only [bool_to_prop] at hb_17; refine q03 (q09 Q12 (d9 Q10 (q8 Q9 ?_))); simp only [go_sem]; refine w9 Q6 (⟨(m_1, straggler_1, i64.wrap (t11_1 + 1), a_1), [], ?_, h, Nat.lt_succ_self _⟩); simp only [go_sem, Le]
     ·
      replace h := u6 h hb_17; simp only [bool_to_prop] at hb_17; refine j4 (q8 Q12 (sg fun _ Q14 => ?_)); simp only [go_sem]; rcases hb_18 : straggler_1 with _ | _
      ·
       replace h := u6 h hb_18; simp only [go_sem, hb_18, f8a, f8b, f8c]; refine And.intro (by omega) ?_; rcases hb_19 : xv_8.Fired with _ | _
       ·
        replace h := u6 h hb_19; simp only [go_sem, hb_19]; refine q8 Q14 ?_; have rf_10 : (enc a_1).set (Int.toNat t11_1) [.v (.int .i64 xv_8.Time.D), .v (.int .i64 xv_8.Time.C.a0), .v (.int .i64 xv_8.Time.C.a1), .v (.int .i64 xv_8.Time.C.a2), .v (.int .i64 xv_8.Time.C.a3), .sl 3 (enc xv_8.In.a0), .sl 3 (enc xv_8.In.a1), .sl 3 (enc xv_8.Sent), .v (.bool true), .v (.bool xv_8.Fired)] = enc (List.set a_1 (Int.toNat t11_1) (⟨xv_8.Time, xv_8.In, xv_8.Sent, true, xv_8.Fired⟩ : GSlot)) := by exact q3s a_1 (Int.toNat t11_1) (⟨xv_8.Time, xv_8.In, xv_8.Sent, true, xv_8.Fired⟩ : GSlot)
        simp only [go_sem, f8a, f8b, f8c, rf_10]; refine And.intro (by omega) ?_; refine y8 Q10 (q8 Q9 ?_); simp only [go_sem]; refine w9 Q6 (⟨(m_1, false, i64.wrap (t11_1 + 1), (List.set a_1 (Int.toNat t11_1) (⟨xv_8.Time, xv_8.In, xv_8.Sent, true, xv_8.Fired⟩ : GSlot))), [], ?_, h, Nat.lt_succ_self _⟩); simp only [go_sem, Le]
       ·
        replace h := x9 h hb_19; simp only [go_sem, hb_19, f8a, f8b, f8c]; refine And.intro (by omega) ?_; refine q8 Q14 ?_; have rf_11 : (enc a_1).set (Int.toNat t11_1) [.v (.int .i64 xv_8.Time.D), .v (.int .i64 xv_8.Time.C.a0), .v (.int .i64 xv_8.Time.C.a1), .v (.int .i64 xv_8.Time.C.a2), .v (.int .i64 xv_8.Time.C.a3), .sl 3 (enc xv_8.In.a0), .sl 3 (enc xv_8.In.a1), .sl 3 (enc xv_8.Sent), .v (.bool true), .v (.bool xv_8.Fired)] = enc (List.set a_1 (Int.toNat t11_1) (⟨xv_8.Time, xv_8.In, xv_8.Sent, true, xv_8.Fired⟩ : GSlot)) := by exact q3s a_1 (Int.toNat t11_1) (⟨xv_8.Time, xv_8.In, xv_8.Sent, true, xv_8.Fired⟩ : GSlot)
        simp only [go_sem, f8a, f8b, f8c, rf_11]; refine And.intro (by omega) ?_; refine y8 Q10 (q8 Q9 ?_); simp only [go_sem]; refine w9 Q6 (⟨(m_1, (!xv_8.Dirty), i64.wrap (t11_1 + 1), (List.set a_1 (Int.toNat t11_1) (⟨xv_8.Time, xv_8.In, xv_8.Sent, true, xv_8.Fired⟩ : GSlot))), [], ?_, h, Nat.lt_succ_self _⟩); simp only [go_sem, Le]
      ·
       replace h := x9 h hb_18; simp only [go_sem, hb_18]; refine q8 Q14 ?_; have rf_12 : (enc a_1).set (Int.toNat t11_1) [.v (.int .i64 xv_8.Time.D), .v (.int .i64 xv_8.Time.C.a0), .v (.int .i64 xv_8.Time.C.a1), .v (.int .i64 xv_8.Time.C.a2), .v (.int .i64 xv_8.Time.C.a3), .sl 3 (enc xv_8.In.a0), .sl 3 (enc xv_8.In.a1), .sl 3 (enc xv_8.Sent), .v (.bool true), .v (.bool xv_8.Fired)] = enc (List.set a_1 (Int.toNat t11_1) (⟨xv_8.Time, xv_8.In, xv_8.Sent, true, xv_8.Fired⟩ : GSlot)) := by exact q3s a_1 (Int.toNat t11_1) (⟨xv_8.Time, xv_8.In, xv_8.Sent, true, xv_8.Fired⟩ : GSlot)
       simp only [go_sem, f8a, f8b, f8c, rf_12]; refine And.intro (by omega) ?_; refine y8 Q10 (q8 Q9 ?_); simp only [go_sem]; refine w9 Q6 (⟨(m_1, true, i64.wrap (t11_1 + 1), (List.set a_1 (Int.toNat t11_1) (⟨xv_8.Time, xv_8.In, xv_8.Sent, true, xv_8.Fired⟩ : GSlot))), [], ?_, h, Nat.lt_succ_self _⟩); simp only [go_sem, Le]
   ·
    replace h := x9 h hb_15; simp only [go_sem, hb_15]; refine q8 Q13 ?_; refine q55 (by (simp only [go_sem]; done)) ?_; refine j4 (q8 Q12 (sg fun _ Q15 => ?_)); simp only [go_sem]; rcases hb_20 : straggler_1 with _ | _
    ·
     replace h := u6 h hb_20; obtain ⟨xv_9, ex9, h⟩ := q9 h; obtain ⟨f9a, f9b, f9c⟩ := u7 ex9; simp only [go_sem, hb_20, f9a, f9b, f9c]; refine And.intro (by omega) ?_; rcases hb_21 : xv_9.Fired with _ | _
     ·
      replace h := u6 h hb_21; simp only [go_sem, hb_21]; refine q8 Q15 ?_; have rf_13 : (enc a_1).set (Int.toNat t11_1) [.v (.int .i64 xv_9.Time.D), .v (.int .i64 xv_9.Time.C.a0), .v (.int .i64 xv_9.Time.C.a1), .v (.int .i64 xv_9.Time.C.a2), .v (.int .i64 xv_9.Time.C.a3), .sl 3 (enc xv_9.In.a0), .sl 3 (enc xv_9.In.a1), .sl 3 (enc xv_9.Sent), .v (.bool true), .v (.bool xv_9.Fired)] = enc (List.set a_1 (Int.toNat t11_1) (⟨xv_9.Time, xv_9.In, xv_9.Sent, true, xv_9.Fired⟩ : GSlot)) := by exact q3s a_1 (Int.toNat t11_1) (⟨xv_9.Time, xv_9.In, xv_9.Sent, true, xv_9.Fired⟩ : GSlot)
      simp only [go_sem, f9a, f9b, f9c, rf_13]; refine And.intro (by omega) ?_; refine y8 Q10 (q8 Q9 ?_); simp only [go_sem]; refine w9 Q6 (⟨(m_1, false, i64.wrap (t11_1 + 1), (List.set a_1 (Int.toNat t11_1) (⟨xv_9.Time, xv_9.In, xv_9.Sent, true, xv_9.Fired⟩ : GSlot))), [], ?_, h, Nat.lt_succ_self _⟩); simp only [go_sem, Le]
     ·
      replace h := x9 h hb_21; simp only [go_sem, hb_21, f9a, f9b, f9c]; refine And.intro (by omega) ?_; refine q8 Q15 ?_; have rf_14 : (enc a_1).set (Int.toNat t11_1) [.v (.int .i64 xv_9.Time.D), .v (.int .i64 xv_9.Time.C.a0), .v (.int .i64 xv_9.Time.C.a1), .v (.int .i64 xv_9.Time.C.a2), .v (.int .i64 xv_9.Time.C.a3), .sl 3 (enc xv_9.In.a0), .sl 3 (enc xv_9.In.a1), .sl 3 (enc xv_9.Sent), .v (.bool true), .v (.bool xv_9.Fired)] = enc (List.set a_1 (Int.toNat t11_1) (⟨xv_9.Time, xv_9.In, xv_9.Sent, true, xv_9.Fired⟩ : GSlot)) := by exact q3s a_1 (Int.toNat t11_1) (⟨xv_9.Time, xv_9.In, xv_9.Sent, true, xv_9.Fired⟩ : GSlot)
      simp only [go_sem, f9a, f9b, f9c, rf_14]; refine And.intro (by omega) ?_; refine y8 Q10 (q8 Q9 ?_); simp only [go_sem]; refine w9 Q6 (⟨(m_1, (!xv_9.Dirty), i64.wrap (t11_1 + 1), (List.set a_1 (Int.toNat t11_1) (⟨xv_9.Time, xv_9.In, xv_9.Sent, true, xv_9.Fired⟩ : GSlot))), [], ?_, h, Nat.lt_succ_self _⟩); simp only [go_sem, Le]
    ·
     replace h := x9 h hb_20; simp only [go_sem, hb_20]; refine q8 Q15 ?_; obtain ⟨xv_10, ex10, h⟩ := q9 h; obtain ⟨f10a, f10b, f10c⟩ := u7 ex10; have rf_15 : (enc a_1).set (Int.toNat t11_1) [.v (.int .i64 xv_10.Time.D), .v (.int .i64 xv_10.Time.C.a0), .v (.int .i64 xv_10.Time.C.a1), .v (.int .i64 xv_10.Time.C.a2), .v (.int .i64 xv_10.Time.C.a3), .sl 3 (enc xv_10.In.a0), .sl 3 (enc xv_10.In.a1), .sl 3 (enc xv_10.Sent), .v (.bool true), .v (.bool xv_10.Fired)] = enc (List.set a_1 (Int.toNat t11_1) (⟨xv_10.Time, xv_10.In, xv_10.Sent, true, xv_10.Fired⟩ : GSlot)) := by exact q3s a_1 (Int.toNat t11_1) (⟨xv_10.Time, xv_10.In, xv_10.Sent, true, xv_10.Fired⟩ : GSlot)
     simp only [go_sem, f10a, f10b, f10c, rf_15]; refine And.intro (by omega) ?_; refine y8 Q10 (q8 Q9 ?_); simp only [go_sem]; refine w9 Q6 (⟨(m_1, true, i64.wrap (t11_1 + 1), (List.set a_1 (Int.toNat t11_1) (⟨xv_10.Time, xv_10.In, xv_10.Sent, true, xv_10.Fired⟩ : GSlot))), [], ?_, h, Nat.lt_succ_self _⟩); simp only [go_sem, Le]
  · replace h := u6 h hb_14; simp only [bool_to_prop] at hb_14; refine q03 (q09 Q8 (q07 Q6 (d9 Q5 (q8 Q3 (sg fun _ Q16 => ?_))))); simp only [go_sem]; refine q8 Q16 (z8 ?_); simp only [go_sem]; obtain rfl := Option.some.inj h; refine q0e [] ?_; simp only [go_sem, Le]

def q8a (x_0 : List GSlot) (i_0 : Int) (j_0 : Int) : Option (List GSlot) := qy7 x_0 i_0 j_0
theorem qd6 : DelLay Tryz.prog (qw4 199 0 0 0 3 4 157 88) 10 (.agg #[.int .i64 0, .int .i64 0, .int .i64 0, .int .i64 0, .int .i64 0, .slice none 0 0, .slice none 0 0, .slice none 0 0, .bool false, .bool false] : Value) := { mixed := by kernel_rfl, t0 := Tryz.underlying0, a0 := Tryz.isAgg0, z0 := Tryz.sizeOf0, v0 := Tryz.zeroValue0, t3 := Tryz.underlying3, a3 := Tryz.isAgg3, z3 := Tryz.sizeOf3, v3 := Tryz.zeroValue3, t4 := Tryz.underlying4, a4 := Tryz.isAgg4, z4 := Tryz.sizeOf4, v4 := Tryz.zeroValue4, t24 := Tryz.underlying88, a24 := Tryz.isAgg88, z24 := Tryz.sizeOf88, v24 := Tryz.zeroValue88, z9 := Tryz.sizeOf157, v9 := Tryz.zeroValue157, i9 := z4t (b := 120) (by kernel_rfl), f24 := ⟨"slices.Delete[[]backwash/api.Slot,backwash/api.Slot]", by decide, by kernel_rfl⟩ }
theorem qd7 (x_0 : List GSlot) (i_0 : Int) (j_0 : Int) (r : List GSlot) (h : q8a x_0 i_0 j_0 = some r) : DetS Tryz.prog 199 [.osl 0 10 0 (List.length x_0), .v (.int .i64 i_0), .v (.int .i64 j_0)] [(0, .arr 10 (enc x_0))] 1 (.osl 1 10 0 (List.length r)) [(1, .arr 10 (enc r))] 2 :=
 z1k qd6 (by kernel_rfl) (by decide) (by rfl) (by rfl) (fun _ => rfl) h

def q62 (c_0 : List GSlot) (atv_0 : Int) : Option (List GSlot) :=
 j6 (idx c_0 atv_0) (fun (xv_0 : GSlot) =>
 j6 (q73 xv_0) (fun (v_0 : Bool) =>
 (if v_0 = true then j6 (q8a c_0 atv_0 (i64.wrap (atv_0 + 1))) (fun (v_1 : List GSlot) =>
 some v_1)
 else some c_0)))
theorem q98 (c_0 : List GSlot) (atv_0 : Int)  (r : List GSlot) (h : q62 c_0 atv_0 = some r) : DetS Tryz.prog 146 [.osl 0 10 (0) (List.length c_0), .v (.int .i64 atv_0)] [(0, .arr 10 (enc c_0))] 1 (.osl 1 10 (0) (List.length r)) [(1, .arr 10 (enc r))] 2 := by
 unfold DetS; refine Spec.of_vc Tryz.func146 rfl (by kernel_rfl) (by kernel_rfl) ?_; rw [q62] at h; refine sg fun _ Q1 => ?_; simp only [go_sem]; refine q8 Q1 (sg fun _ Q2 => ?_); refine sg fun _ Q3 => ?_; obtain ⟨xv_0, ex0, h⟩ := q9 h; obtain ⟨f0a, f0b, f0c⟩ := u7 ex0; obtain ⟨v_0, ev_0, h⟩ := q9 h; simp only [go_sem, f0a, f0b, f0c]; refine And.intro (by omega) ?_; refine q0f (qp2 xv_0 v_0 ev_0) (by rfl) (by rfl) ?_; simp only [go_sem]; refine q8 Q3 ?_; refine j3 (b := v_0) (by (simp only [go_sem]; done)) (fun hb_0 => ?_) (fun hb_0 => ?_)
 · replace h := x9 h hb_0; refine sg fun _ Q4 => ?_; obtain ⟨v_1, ev_1, h⟩ := q9 h; simp only [go_sem]; refine q19 [0] (qd7 c_0 atv_0 (i64.wrap (atv_0 + 1)) v_1 ev_1) (by simp) rfl ⟨rfl, trivial⟩ rfl rfl rfl rfl ?_; simp only [go_sem]; refine q8 Q4 (z8 (y5 Q2 ?_)); simp only [go_sem]; obtain rfl := Option.some.inj h; refine q0e [some 1] ?_; simp only [go_sem, Le]
 · replace h := u6 h hb_0; refine j4 (q8 Q2 (sg fun _ Q5 => ?_)); simp only [go_sem]; refine q8 Q5 (z8 ?_); simp only [go_sem]; obtain rfl := Option.some.inj h; refine q0e [some 0] ?_; simp only [go_sem, Le]

def q94 (kind_0 : Int) (port_0 : Int) (rv_0 : GRec) (nv_0 : Int) (v_3 : Int × Bool) (a_0 : List GSlot) : Option ((List GSlot) × Bool × Bool) :=
 j6 (idx a_0 v_3.1) (fun (xv_0 : GSlot) =>
 q0v (0 ≤ port_0 ∧ port_0 < 2) (
 j6 (idx ([xv_0.In.a0, xv_0.In.a1] : List (List GItem)) port_0) (fun (xv_1 : List GItem) =>
 j6 (qa7 xv_1 rv_0 nv_0) (fun (v_5 : List GItem) =>
 q0v (0 ≤ port_0 ∧ port_0 < 2) (
 j6 (some (if Int.toNat port_0 = 0 then v_5 else xv_0.In.a0)) (fun (w_0 : List GItem) =>
 j6 (some (if Int.toNat port_0 = 1 then v_5 else xv_0.In.a1)) (fun (w_1 : List GItem) =>
 j6 (qa4 (List.set a_0 (Int.toNat v_3.1) (⟨xv_0.Time, (⟨w_0, w_1⟩ : Arr2 (List GItem)), xv_0.Sent, xv_0.Dirty, xv_0.Fired⟩ : GSlot)) kind_0 v_3.1) (fun (v_6 : Bool × (List GSlot)) =>
 q0v (List.length v_6.2 = List.length (List.set a_0 (Int.toNat v_3.1) (⟨xv_0.Time, (⟨w_0, w_1⟩ : Arr2 (List GItem)), xv_0.Sent, xv_0.Dirty, xv_0.Fired⟩ : GSlot))) (
 j6 (q62 v_6.2 v_3.1) (fun (v_7 : List GSlot) =>
 some (v_7, v_6.1, true)))))))))))
def qg6 (c_0 : List GSlot) (kind_0 : Int) (port_0 : Int) (t_0 : GTime) (rv_0 : GRec) (nv_0 : Int) : Option ((List GSlot) × Bool × Bool) :=
 j6 (q60 c_0) (fun (v_0 : List GSlot) =>
 j6 (q5b c_0) (fun (v_1 : Bool) =>
 (if (((!v_1) || (decide (port_0 < 0))) || (decide (1 < port_0))) = true then some (v_0, false, false)
 else j6 (q2l t_0) (fun (v_2 : Bool) =>
 (if ((((!v_2) || (nv_0 == 0)) || (decide (nv_0 < (-2147483648)))) || (decide (2147483648 < nv_0))) = true then some (v_0, false, false)
 else j6 (q9l v_0 t_0) (fun (v_3 : Int × Bool) =>
 (if (!v_3.2) = true then j6 (q6h v_0 v_3.1 ([(⟨t_0, (⟨([] : List GItem), ([] : List GItem)⟩ : Arr2 (List GItem)), ([] : List GItem), false, false⟩ : GSlot)] : List GSlot)) (fun (v_8 : List GSlot) =>
 q94 kind_0 port_0 rv_0 nv_0 v_3 v_8)
 else q94 kind_0 port_0 rv_0 nv_0 v_3 v_0)))))))
theorem z1i (c_0 : List GSlot) (kind_0 : Int) (port_0 : Int) (t_0 : GTime) (rv_0 : GRec) (nv_0 : Int)  (r : (List GSlot) × Bool × Bool) (h : qg6 c_0 kind_0 port_0 t_0 rv_0 nv_0 = some r) : DetS Tryz.prog 100 [.sl 10 (enc c_0), .v (.int .i64 kind_0), .v (.int .i64 port_0), .agg [.v (.int .i64 t_0.D), .v (.int .i64 t_0.C.a0), .v (.int .i64 t_0.C.a1), .v (.int .i64 t_0.C.a2), .v (.int .i64 t_0.C.a3)], .agg [.v (.int .i64 rv_0.K), .v (.int .i64 rv_0.V)], .v (.int .i64 nv_0)] [] 0 (.tup [.osl 0 10 (0) (List.length r.1), .v (.bool r.2.1), .v (.bool r.2.2)]) [(0, .arr 10 (enc r.1))] 1 := by
 unfold DetS; refine Spec.of_vc Tryz.func100 rfl (by kernel_rfl) (by kernel_rfl) ?_; rw [qg6] at h; refine sg fun _ Q1 => ?_; simp only [go_sem]; refine q8 Q1 (sg fun _ Q2 => ?_); obtain ⟨v_0, ev_0, h⟩ := q9 h; simp only [go_sem]; refine q19 [] (q96 c_0 v_0 ev_0) (by simp) rfl trivial rfl rfl rfl rfl ?_; simp only [go_sem]; refine q8 Q2 (sg fun _ Q3 => ?_); refine sg fun _ Q4 => ?_; obtain ⟨v_1, ev_1, h⟩ := q9 h; simp only [go_sem]; refine q0f (q8b c_0 v_1 ev_1) (by rfl) (by rfl) ?_; simp only [go_sem]; rcases hb_0 : (((!v_1) || (decide (port_0 < 0))) || (decide (1 < port_0))) with _ | _
 ·
  replace h := u6 h hb_0; obtain ⟨v_2, ev_2, h⟩ := q9 h; simp only [go_sem, hb_0]; refine q0f (q3y t_0 v_2 ev_2) (by rfl) (by rfl) ?_; simp only [go_sem]; refine q8 Q4 ?_; refine j3 (b := ((((!v_2) || (nv_0 == 0)) || (decide (nv_0 < (-2147483648)))) || (decide (2147483648 < nv_0)))) (by (simp only [go_sem]; done)) (fun hb_1 => ?_) (fun hb_1 => ?_)
  · replace h := x9 h hb_1; simp only [bool_to_prop] at hb_1; refine sg fun _ Q5 => ?_; simp only [go_sem]; refine q8 Q5 (z8 (y5 Q3 ?_)); simp only [go_sem]; obtain rfl := Option.some.inj h; refine q0e [some 2] ?_; simp only [go_sem, Le]
  ·
   replace h := u6 h hb_1; simp only [bool_to_prop] at hb_1; refine j4 (q8 Q3 (sg fun _ Q6 => ?_)); obtain ⟨v_3, ev_3, h⟩ := q9 h; simp only [go_sem]
   refine qg9 (s' := (⟨0, [(0, .sl 10 (enc c_0)), (1, .v (.int .i64 kind_0)), (2, .v (.int .i64 port_0)), (3, .agg [.v (.int .i64 t_0.D), .v (.int .i64 t_0.C.a0), .v (.int .i64 t_0.C.a1), .v (.int .i64 t_0.C.a2), .v (.int .i64 t_0.C.a3)]), (4, .agg [.v (.int .i64 rv_0.K), .v (.int .i64 rv_0.V)]), (5, .v (.int .i64 nv_0)), (9, .ptr 0 0), (10, .ptr 1 0), (12, .v (.slice none 0 0)), (13, .v (.bool false)), (14, .v (.bool false)), (15, .sl 10 (enc v_0)), (19, .sl 10 (enc c_0)), (20, .sl 10 (enc v_0)), (21, .sl 10 (enc c_0)), (22, .v (.bool v_1)), (23, .v (.bool (!v_1))), (24, .v (.bool (!v_1))), (27, .v (.bool ((!v_1) || (decide (port_0 < 0))))), (28, .v (.bool ((!v_1) || (decide (port_0 < 0))))), (31, .v (.bool false)), (32, .v (.bool false)), (33, .agg [.v (.int .i64 t_0.D), .v (.int .i64 t_0.C.a0), .v (.int .i64 t_0.C.a1), .v (.int .i64 t_0.C.a2), .v (.int .i64 t_0.C.a3)]), (34, .v (.bool v_2)), (35, .v (.bool (!v_2))), (36, .v (.bool (!v_2))), (37, .v (.bool (!v_2))), (40, .v (.bool ((!v_2) || (nv_0 == 0)))), (41, .v (.bool ((!v_2) || (nv_0 == 0)))), (44, .v (.bool (((!v_2) || (nv_0 == 0)) || (decide (nv_0 < (-2147483648)))))), (45, .v (.bool (((!v_2) || (nv_0 == 0)) || (decide (nv_0 < (-2147483648)))))), (48, .v (.bool ((((!v_2) || (nv_0 == 0)) || (decide (nv_0 < (-2147483648)))) || (decide (2147483648 < nv_0))))), (51, .sl 10 (enc v_0)), (52, .agg [.v (.int .i64 t_0.D), .v (.int .i64 t_0.C.a0), .v (.int .i64 t_0.C.a1), .v (.int .i64 t_0.C.a2), .v (.int .i64 t_0.C.a3)])], [(0, .box [.v (.int .i64 t_0.D), .v (.int .i64 t_0.C.a0), .v (.int .i64 t_0.C.a1), .v (.int .i64 t_0.C.a2), .v (.int .i64 t_0.C.a3)]), (1, .box [.v (.int .i64 rv_0.K), .v (.int .i64 rv_0.V)])], 2, 88⟩ : St)) (l := [some 0, some 1]) (args' := [.sl 10 (enc v_0), .agg [.v (.int .i64 t_0.D), .v (.int .i64 t_0.C.a0), .v (.int .i64 t_0.C.a1), .v (.int .i64 t_0.C.a2), .v (.int .i64 t_0.C.a3)]]) ?_ ?_ (qf4 v_0 t_0 v_3 ev_3) (by rfl) (by rfl) ?_
   · simp only [go_sem, Le] <;> (repeat' apply And.intro) <;> (try with_reducible refine x8 ?_) <;> first | omega | (simp [go_sem]; done)
   · simp only [go_sem, Le] <;> (repeat' apply And.intro) <;> ((try with_reducible refine x8 ?_); (simp [go_sem]; done))
   simp only [go_sem]; refine q8 Q6 (q0a (by kernel_rfl) ?_); refine q0x (ι := (List GSlot)) (fun (a_0 : (List GSlot)) => (⟨0, [(1, .v (.int .i64 kind_0)), (2, .v (.int .i64 port_0)), (5, .v (.int .i64 nv_0)), (10, .ptr 0 0), (15, .osl 1 10 (0) (List.length a_0)), (16, .v (.int .i64 v_3.1))], [(0, .box [.v (.int .i64 rv_0.K), .v (.int .i64 rv_0.V)]), (1, .arr 10 (enc a_0))], 2, 88⟩ : St)) (fun (a_0 : (List GSlot)) => q94 kind_0 port_0 rv_0 nv_0 v_3 a_0 = some r) ?_ ?_
   ·
    intro _ Q10; refine sg fun _ Q11 => ?_; simp only [go_sem]; refine q8 Q11 ?_; refine j3 (b := (!v_3.2)) (by (simp only [go_sem]; done)) (fun hb_3 => ?_) (fun hb_3 => ?_)
    ·
     replace h := x9 h hb_3; simp only [bool_to_prop] at hb_3; have rf_2 : [[.v (.int .i64 t_0.D), .v (.int .i64 t_0.C.a0), .v (.int .i64 t_0.C.a1), .v (.int .i64 t_0.C.a2), .v (.int .i64 t_0.C.a3), .sl 3 (enc ([] : List GItem)), .sl 3 (enc ([] : List GItem)), .sl 3 (enc ([] : List GItem)), .v (.bool false), .v (.bool false)]] = enc ([(⟨t_0, (⟨([] : List GItem), ([] : List GItem)⟩ : Arr2 (List GItem)), ([] : List GItem), false, false⟩ : GSlot)] : List GSlot) := by rfl
     have rf_2n := rf_2; simp only [q5r] at rf_2n; obtain ⟨v_8, ev_8, h⟩ := q9 h; simp only [go_sem]; simp only [rf_2n, rf_2]; refine q19 [2, 3] (q9e v_0 v_3.1 ([(⟨t_0, (⟨([] : List GItem), ([] : List GItem)⟩ : Arr2 (List GItem)), ([] : List GItem), false, false⟩ : GSlot)] : List GSlot) v_8 ev_8) (by simp) rfl ⟨rfl, ⟨rfl, trivial⟩⟩ rfl rfl rfl rfl ?_; simp only [go_sem]; refine w9 Q10 (⟨v_8, [some 1, some 4], ?_, h⟩); simp only [go_sem, Le] <;> (repeat' apply And.intro) <;> (try with_reducible refine x8 ?_) <;> first | omega | (simp [go_sem]; done)
    · replace h := u6 h hb_3; simp only [bool_to_prop] at hb_3; refine j4 (w9 Q10 (⟨v_0, [some 1, some 2], ?_, h⟩)); simp only [go_sem, Le] <;> (repeat' apply And.intro) <;> (try with_reducible refine x8 ?_) <;> first | omega | (simp [go_sem]; done)
   ·
    rintro a_0 h
    try dsimp only at h
    rw [q94] at h; refine sg fun _ Q7 => ?_; refine q0q ?_; refine q0l 15 [0, 0, 0, 0, 0, 0, 24, 88, 248, 504, 0, 0, 4088, 3, 8195, 32767, 65535] mixed (by kernel_rfl) (of_decide_eq_true (by kernel_rfl)) (by kernel_rfl) ?_; obtain ⟨xv_0, ex0, h⟩ := q9 h; obtain ⟨f0a, f0b, f0c⟩ := u7 ex0; obtain ⟨g_0, h⟩ := q0k h; obtain ⟨xv_1, ex1, h⟩ := q9 h; obtain ⟨f1a, f1b, f1c, fxv_1d⟩ := qa5 (f := (fun y => AV.sl 3 (enc y))) [.v (.int .i64 xv_0.Time.D), .v (.int .i64 xv_0.Time.C.a0), .v (.int .i64 xv_0.Time.C.a1), .v (.int .i64 xv_0.Time.C.a2), .v (.int .i64 xv_0.Time.C.a3)] [.sl 3 (enc xv_0.Sent), .v (.bool xv_0.Dirty), .v (.bool xv_0.Fired)] ex1; simp only [List.cons_append, List.nil_append, List.append_nil, List.map_cons, List.map_nil, List.length_cons, List.length_nil, Nat.zero_add, Nat.reduceAdd] at f1b f1c fxv_1d; obtain ⟨v_5, ev_5, h⟩ := q9 h; simp only [go_sem, f0a, f0b, f0c, g_0, f1a, f1b, f1c, fxv_1d]; refine And.intro (by first | omega | (intros; simp_all; done)) ?_; refine And.intro (by first | omega | (intros; simp_all; done)) ?_; refine And.intro (by first | omega | (intros; simp_all; done)) ?_; simp only [List.getD_eq_getElem?_getD, Nat.mul_one, fxv_1d, Option.map_some, Option.getD_some, true_and]; simp only [go_sem, f0a, f0b, f0c, g_0, f1a, f1b, f1c, fxv_1d, List.getD_eq_getElem?_getD, Nat.mul_one, fxv_1d, Option.map_some, Option.getD_some, true_and]; refine callq (fun _ => (z5c xv_1 rv_0 nv_0 v_5 ev_5)) (by rfl) (by rfl) ?_; obtain ⟨g_1, h⟩ := q0k h; obtain ⟨w_0, ew_0, h⟩ := q9 h; obtain ⟨w_1, ew_1, h⟩ := q9 h
    have sf_0 := z90 (f := (fun y => AV.sl 3 (enc y))) [.v (.int .i64 xv_0.Time.D), .v (.int .i64 xv_0.Time.C.a0), .v (.int .i64 xv_0.Time.C.a1), .v (.int .i64 xv_0.Time.C.a2), .v (.int .i64 xv_0.Time.C.a3)] [.sl 3 (enc xv_0.Sent), .v (.bool xv_0.Dirty), .v (.bool xv_0.Fired)] [xv_0.In.a0, xv_0.In.a1] [w_0, w_1] (Int.toNat port_0) v_5 (by simp only [List.length_cons, List.length_nil]; omega) (by simp only [List.mapIdx_cons, List.mapIdx_nil, Nat.zero_add, Nat.reduceAdd, Option.some.inj ew_0, Option.some.inj ew_1]); simp only [List.cons_append, List.nil_append, List.append_nil, List.map_cons, List.map_nil, List.length_cons, List.length_nil, Nat.zero_add, Nat.reduceAdd, q6n, Nat.add_assoc, q5r] at sf_0; have rf_1 : (enc a_0).set (Int.toNat v_3.1) [.v (.int .i64 xv_0.Time.D), .v (.int .i64 xv_0.Time.C.a0), .v (.int .i64 xv_0.Time.C.a1), .v (.int .i64 xv_0.Time.C.a2), .v (.int .i64 xv_0.Time.C.a3), .sl 3 (enc w_0), .sl 3 (enc w_1), .sl 3 (enc xv_0.Sent), .v (.bool xv_0.Dirty), .v (.bool xv_0.Fired)] = enc (List.set a_0 (Int.toNat v_3.1) (⟨xv_0.Time, (⟨w_0, w_1⟩ : Arr2 (List GItem)), xv_0.Sent, xv_0.Dirty, xv_0.Fired⟩ : GSlot)) := by exact q3s a_0 (Int.toNat v_3.1) (⟨xv_0.Time, (⟨w_0, w_1⟩ : Arr2 (List GItem)), xv_0.Sent, xv_0.Dirty, xv_0.Fired⟩ : GSlot)
    simp only [go_sem, f0a, f0b, f0c, g_1, sf_0, Nat.mul_one, rf_1]; refine And.intro (by omega) ?_; refine And.intro (by omega) ?_; refine q8 Q7 (sg fun _ Q8 => ?_); obtain ⟨v_6, ev_6, h⟩ := q9 h; simp only [go_sem]; refine q41 (s' := (⟨0, [(1, .v (.int .i64 kind_0)), (2, .v (.int .i64 port_0)), (5, .v (.int .i64 nv_0)), (10, .ptr 0 0), (15, .osl 1 10 (0) (List.length a_0)), (16, .v (.int .i64 v_3.1)), (64, .osl 1 10 (0) (List.length a_0)), (65, .v (.int .i64 v_3.1)), (66, .v (.int .i64 port_0)), (67, .osl 1 10 (0) (List.length a_0)), (68, .v (.int .i64 v_3.1)), (69, .v (.int .i64 port_0)), (73, .sl 3 (enc xv_1)), (74, .agg [.v (.int .i64 rv_0.K), .v (.int .i64 rv_0.V)]), (75, .v (.int .i64 nv_0)), (76, .sl 3 (enc v_5)), (80, .osl 1 10 (0) (List.length a_0)), (81, .v (.int .i64 kind_0)), (82, .v (.int .i64 v_3.1))], [(0, .box [.v (.int .i64 rv_0.K), .v (.int .i64 rv_0.V)]), (1, .arr 10 (enc (List.set a_0 (Int.toNat v_3.1) (⟨xv_0.Time, (⟨w_0, w_1⟩ : Arr2 (List GItem)), xv_0.Sent, xv_0.Dirty, xv_0.Fired⟩ : GSlot))))], 2, 88⟩ : St)) (l := [some 0, some 1]) (args' := [.osl 1 10 (0) (List.length (List.set a_0 (Int.toNat v_3.1) (⟨xv_0.Time, (⟨w_0, w_1⟩ : Arr2 (List GItem)), xv_0.Sent, xv_0.Dirty, xv_0.Fired⟩ : GSlot))), .v (.int .i64 kind_0), .v (.int .i64 v_3.1)]) ?_ ?_ ?_
    · simp only [go_sem, Le] <;> (repeat' apply And.intro) <;> (try with_reducible refine x8 ?_) <;> first | omega | (simp [go_sem]; done)
    · simp only [go_sem, Le]
    refine q19 [1] (qt7 (List.set a_0 (Int.toNat v_3.1) (⟨xv_0.Time, (⟨w_0, w_1⟩ : Arr2 (List GItem)), xv_0.Sent, xv_0.Dirty, xv_0.Fired⟩ : GSlot)) kind_0 v_3.1 v_6 ev_6) (by simp) rfl ⟨rfl, trivial⟩ rfl rfl rfl rfl ?_; obtain ⟨g_2, h⟩ := q0k h; simp only [List.length_set] at g_2; simp only [go_sem, g_2]; refine q8 Q8 (sg fun _ Q9 => ?_); obtain ⟨v_7, ev_7, h⟩ := q9 h; simp only [go_sem]; refine q41 (s' := (⟨0, [(1, .v (.int .i64 kind_0)), (2, .v (.int .i64 port_0)), (5, .v (.int .i64 nv_0)), (10, .ptr 0 0), (15, .osl 1 10 (0) (List.length v_6.2)), (16, .v (.int .i64 v_3.1)), (18, .v (.bool v_6.1)), (64, .osl 1 10 (0) (List.length v_6.2)), (65, .v (.int .i64 v_3.1)), (66, .v (.int .i64 port_0)), (67, .osl 1 10 (0) (List.length v_6.2)), (68, .v (.int .i64 v_3.1)), (69, .v (.int .i64 port_0)), (73, .sl 3 (enc xv_1)), (74, .agg [.v (.int .i64 rv_0.K), .v (.int .i64 rv_0.V)]), (75, .v (.int .i64 nv_0)), (76, .sl 3 (enc v_5)), (80, .osl 1 10 (0) (List.length v_6.2)), (81, .v (.int .i64 kind_0)), (82, .v (.int .i64 v_3.1)), (83, .v (.bool v_6.1)), (84, .osl 1 10 (0) (List.length v_6.2)), (85, .v (.int .i64 v_3.1))], [(0, .box [.v (.int .i64 rv_0.K), .v (.int .i64 rv_0.V)]), (1, .arr 10 (enc v_6.2))], 2, 88⟩ : St)) (l := [some 0, some 1]) (args' := [.osl 1 10 (0) (List.length v_6.2), .v (.int .i64 v_3.1)]) ?_ ?_ ?_
    · simp only [go_sem, Le] <;> (repeat' apply And.intro) <;> (try with_reducible refine x8 ?_) <;> first | omega | (simp [go_sem]; done)
    · simp only [go_sem, Le] <;> (repeat' apply And.intro) <;> ((try with_reducible refine x8 ?_); omega)
    refine q19 [1] (q98 v_6.2 v_3.1 v_7 ev_7) (by simp) rfl ⟨rfl, trivial⟩ rfl rfl rfl rfl ?_; simp only [go_sem]; refine q8 Q9 (z8 ?_); simp only [go_sem]; obtain rfl := Option.some.inj h; refine q0e [some 2] ?_; simp only [go_sem, Le]
 · replace h := x9 h hb_0; simp only [go_sem, hb_0]; refine q8 Q4 ?_; refine q0o (by (simp only [go_sem]; done)) ?_; refine sg fun _ Q12 => ?_; simp only [go_sem]; refine q8 Q12 (z8 (y5 Q3 ?_)); simp only [go_sem]; obtain rfl := Option.some.inj h; refine q0e [some 2] ?_; simp only [go_sem, Le]
theorem z1y (c_0 : List GSlot) (kind_0 : Int) (port_0 : Int) (t_0 : GTime) (rv_0 : GRec) (nv_0 : Int)  (r : (List GSlot) × Bool × Bool) (h : qg6 c_0 kind_0 port_0 t_0 rv_0 nv_0 = some r) : PureS Tryz.prog 100 [.sl 10 (enc c_0), .v (.int .i64 kind_0), .v (.int .i64 port_0), .agg [.v (.int .i64 t_0.D), .v (.int .i64 t_0.C.a0), .v (.int .i64 t_0.C.a1), .v (.int .i64 t_0.C.a2), .v (.int .i64 t_0.C.a3)], .agg [.v (.int .i64 rv_0.K), .v (.int .i64 rv_0.V)], .v (.int .i64 nv_0)] 0 (.tup [.sl 10 (enc r.1), .v (.bool r.2.1), .v (.bool r.2.2)]) := by
 refine (z1i c_0 kind_0 port_0 t_0 rv_0 nv_0  r h).pure ?_; simp only [go_sem, Le] <;> (repeat' apply And.intro) <;> ((try with_reducible refine x8 ?_); (simp [go_sem]; done))

def qw8 (c_0 : List GSlot) (t_0 : GTime) : Option (GSlot × Bool) :=
 j6 (q5b c_0) (fun (v_0 : Bool) =>
 (if (!v_0) = true then some ((⟨(⟨0, (⟨0, 0, 0, 0⟩ : Arr4 Int)⟩ : GTime), (⟨([] : List GItem), ([] : List GItem)⟩ : Arr2 (List GItem)), ([] : List GItem), false, false⟩ : GSlot), false)
 else j6 (q9l c_0 t_0) (fun (v_1 : Int × Bool) =>
 (if (!v_1.2) = true then some ((⟨(⟨0, (⟨0, 0, 0, 0⟩ : Arr4 Int)⟩ : GTime), (⟨([] : List GItem), ([] : List GItem)⟩ : Arr2 (List GItem)), ([] : List GItem), false, false⟩ : GSlot), false)
 else j6 (idx c_0 v_1.1) (fun (xv_0 : GSlot) =>
 some (xv_0, true))))))
theorem z5b (c_0 : List GSlot) (t_0 : GTime)  (r : GSlot × Bool) (h : qw8 c_0 t_0 = some r) : PureS Tryz.prog 142 [.sl 10 (enc c_0), .agg [.v (.int .i64 t_0.D), .v (.int .i64 t_0.C.a0), .v (.int .i64 t_0.C.a1), .v (.int .i64 t_0.C.a2), .v (.int .i64 t_0.C.a3)]] 0 (.tup [.agg [.v (.int .i64 r.1.Time.D), .v (.int .i64 r.1.Time.C.a0), .v (.int .i64 r.1.Time.C.a1), .v (.int .i64 r.1.Time.C.a2), .v (.int .i64 r.1.Time.C.a3), .sl 3 (enc r.1.In.a0), .sl 3 (enc r.1.In.a1), .sl 3 (enc r.1.Sent), .v (.bool r.1.Dirty), .v (.bool r.1.Fired)], .v (.bool r.2)]) := by
 unfold PureS; refine Spec.of_vc Tryz.func142 rfl (by kernel_rfl) (by kernel_rfl) ?_; rw [qw8] at h; refine sg fun _ Q1 => ?_; simp only [go_sem]; refine q8 Q1 (sg fun _ Q2 => ?_); refine sg fun _ Q3 => ?_; obtain ⟨v_0, ev_0, h⟩ := q9 h; simp only [go_sem]; refine q0f (q8b c_0 v_0 ev_0) (by rfl) (by rfl) ?_; simp only [go_sem]; refine q8 Q3 ?_; refine j3 (b := (!v_0)) (by (simp only [go_sem]; done)) (fun hb_0 => ?_) (fun hb_0 => ?_)
 · replace h := x9 h hb_0; simp only [bool_to_prop] at hb_0; refine sg fun _ Q4 => ?_; simp only [go_sem]; refine q8 Q4 (z8 (y5 Q2 ?_)); simp only [go_sem]; obtain rfl := Option.some.inj h; refine j5 rfl ?_; simp only [go_sem, Le]
 ·
  replace h := u6 h hb_0; simp only [bool_to_prop] at hb_0; refine j4 (q8 Q2 (sg fun _ Q5 => ?_)); obtain ⟨v_1, ev_1, h⟩ := q9 h; simp only [go_sem]; refine q0f (qf4 c_0 t_0 v_1 ev_1) (by rfl) (by rfl) ?_; simp only [go_sem]; refine q8 Q5 (sg fun _ Q6 => ?_); refine sg fun _ Q7 => ?_; simp only [go_sem]; refine q8 Q7 ?_; refine j3 (b := (!v_1.2)) (by (simp only [go_sem]; done)) (fun hb_1 => ?_) (fun hb_1 => ?_)
  · replace h := x9 h hb_1; simp only [bool_to_prop] at hb_1; refine sg fun _ Q8 => ?_; simp only [go_sem]; refine q8 Q8 (z8 (y5 Q6 ?_)); simp only [go_sem]; obtain rfl := Option.some.inj h; refine j5 rfl ?_; simp only [go_sem, Le]
  · replace h := u6 h hb_1; simp only [bool_to_prop] at hb_1; refine j4 (q8 Q6 (sg fun _ Q9 => ?_)); obtain ⟨xv_0, ex0, h⟩ := q9 h; obtain ⟨f0a, f0b, f0c⟩ := u7 ex0; simp only [go_sem, f0a, f0b, f0c]; refine And.intro (by omega) ?_; refine q8 Q9 (z8 ?_); simp only [go_sem]; obtain rfl := Option.some.inj h; refine j5 rfl ?_; simp only [go_sem, Le]

def q30 (c_0 : List GSlot) (rec_1 : Int → Option Bool) : Int → Option Bool :=
 fun i_1 =>
 (if (decide (i_1 < (List.length c_0 : Int))) = true then j6 (idx c_0 i_1) (fun (xv_2 : GSlot) =>
 (if (decide (40 < (List.length xv_2.In.a0 : Int))) = true then some false
 else (if (decide (40 < (List.length xv_2.In.a1 : Int))) = true then some false
 else (if (decide (40 < (List.length xv_2.Sent : Int))) = true then some false
 else rec_1 (i64.wrap (i_1 + 1))))))
 else some true)
def q45 (c_0 : List GSlot) : Option Bool :=
 (if (decide (40 < (List.length c_0 : Int))) = true then some false
 else p9 (q30 c_0) rounds 0)
theorem qm6 (c_0 : List GSlot)  (r : Bool) (h : q45 c_0 = some r) : PureS Tryz.prog 35 [.sl 10 (enc c_0)] 0 (.v (.bool r)) := by
 unfold PureS; refine Spec.of_vc Tryz.func35 rfl (by kernel_rfl) (by kernel_rfl) ?_; rw [q45] at h; refine sg fun _ Q1 => ?_; simp only [go_sem]; refine q8 Q1 (sg fun _ Q2 => ?_); refine sg fun _ Q3 => ?_; simp only [go_sem]; refine q8 Q3 ?_; refine j3 (b := (decide (40 < (List.length c_0 : Int)))) (by (simp only [go_sem]; done)) (fun hb_0 => ?_) (fun hb_0 => ?_)
 · replace h := x9 h hb_0; simp only [bool_to_prop] at hb_0; refine sg fun _ Q4 => ?_; simp only [go_sem]; refine q8 Q4 (z8 (y5 Q2 ?_)); simp only [go_sem]; obtain rfl := Option.some.inj h; refine j5 rfl ?_; simp only [go_sem, Le]
 ·
  replace h := u6 h hb_0; simp only [bool_to_prop] at hb_0; refine j4 (q8 Q2 (q0a (by kernel_rfl) ?_)); refine q0c ?_; intro _ Q5; refine sg fun _ Q6 => ?_; simp only [go_sem]; refine q8 Q6 (y7 ?_); intro _ Q7; refine q06 ?_; refine q0g (ι := Nat × Int) (fun ((_, i_1) : Nat × Int) => (⟨0, [(0, .sl 10 (enc c_0)), (3, .v (.int .i64 i_1))], [], 0, 40⟩ : St)) (fun ((n_, i_1) : Nat × Int) => p9 (q30 c_0) n_ i_1 = some r) (fun p => p.1) (rounds, 0) [] ?_ h ?_
  · simp only [go_sem, Le]
  ·
   rintro ⟨n_1, i_1⟩ h _ Q8; dsimp only at h; replace h := q08 h; obtain ⟨m_1, rfl, h⟩ := h; rw [q30] at h; refine sg fun _ Q9 => ?_; refine sg fun _ Q10 => ?_; simp only [go_sem]; refine q8 Q10 ?_; refine j3 (b := (decide (i_1 < (List.length c_0 : Int)))) (by (simp only [go_sem]; done)) (fun hb_9 => ?_) (fun hb_9 => ?_)
   ·
    replace h := x9 h hb_9; simp only [bool_to_prop] at hb_9; refine j4 (q8 Q9 (sg fun _ Q11 => ?_)); refine y7 ?_; intro _ Q12; refine sg fun _ Q13 => ?_; obtain ⟨xv_2, ex2, h⟩ := q9 h; obtain ⟨f2a, f2b, f2c⟩ := u7 ex2; simp only [go_sem, f2a, f2b, f2c]; refine And.intro (by omega) ?_; rcases hb_10 : (decide (40 < (List.length xv_2.In.a0 : Int))) with _ | _
    ·
     replace h := u6 h hb_10; simp only [go_sem, hb_10, f2a, f2b, f2c]; refine And.intro (by omega) ?_; rcases hb_11 : (decide (40 < (List.length xv_2.In.a1 : Int))) with _ | _
     ·
      replace h := u6 h hb_11; simp only [go_sem, hb_11, f2a, f2b, f2c]; refine And.intro (by omega) ?_; refine q8 Q13 ?_; refine j3 (b := (decide (40 < (List.length xv_2.Sent : Int)))) (by (simp only [go_sem]; done)) (fun hb_12 => ?_) (fun hb_12 => ?_)
      · replace h := x9 h hb_12; simp only [bool_to_prop] at hb_12; refine sg fun _ Q14 => ?_; simp only [go_sem]; refine q8 Q14 (z8 (y9 Q12 (y5 Q11 (q04 Q8 (y9 Q7 (y5 Q5 ?_)))))); simp only [go_sem]; obtain rfl := Option.some.inj h; refine j5 rfl ?_; simp only [go_sem, Le]
      · replace h := u6 h hb_12; simp only [bool_to_prop] at hb_12; refine j4 (y8 Q12 (q8 Q11 ?_)); simp only [go_sem]; refine w9 Q8 (⟨(m_1, i64.wrap (i_1 + 1)), [], ?_, h, Nat.lt_succ_self _⟩); simp only [go_sem, Le]
     · replace h := x9 h hb_11; simp only [go_sem, hb_11]; refine q8 Q13 ?_; refine q0o (by (simp only [go_sem]; done)) ?_; refine sg fun _ Q15 => ?_; simp only [go_sem]; refine q8 Q15 (z8 (y9 Q12 (y5 Q11 (q04 Q8 (y9 Q7 (y5 Q5 ?_)))))); simp only [go_sem]; obtain rfl := Option.some.inj h; refine j5 rfl ?_; simp only [go_sem, Le]
    · replace h := x9 h hb_10; simp only [go_sem, hb_10]; refine q8 Q13 ?_; refine q0o (by (simp only [go_sem]; done)) ?_; refine sg fun _ Q16 => ?_; simp only [go_sem]; refine q8 Q16 (z8 (y9 Q12 (y5 Q11 (q04 Q8 (y9 Q7 (y5 Q5 ?_)))))); simp only [go_sem]; obtain rfl := Option.some.inj h; refine j5 rfl ?_; simp only [go_sem, Le]
   · replace h := u6 h hb_9; simp only [bool_to_prop] at hb_9; refine q03 (q09 Q9 (q07 Q8 (d9 Q7 (q8 Q5 (sg fun _ Q17 => ?_))))); simp only [go_sem]; refine q8 Q17 (z8 ?_); simp only [go_sem]; obtain rfl := Option.some.inj h; refine j5 rfl ?_; simp only [go_sem, Le]

def q3i (a_0 : List GSlot) (b_0 : List GSlot) (rec_1 : Int → Option Bool) : Int → Option Bool :=
 fun i_1 =>
 (if (decide (i_1 < (List.length a_0 : Int))) = true then j6 (idx a_0 i_1) (fun (xv_4 : GSlot) =>
 j6 (idx b_0 i_1) (fun (xv_5 : GSlot) =>
 (if (((!((xv_4.Time.D == xv_5.Time.D) && ((xv_4.Time.C.a0 == xv_5.Time.C.a0) && ((xv_4.Time.C.a1 == xv_5.Time.C.a1) && ((xv_4.Time.C.a2 == xv_5.Time.C.a2) && (xv_4.Time.C.a3 == xv_5.Time.C.a3)))))) || (!(xv_4.Dirty == xv_5.Dirty))) || (!(xv_4.Fired == xv_5.Fired))) = true then some false
 else j6 (q1u xv_4.In.a0 xv_5.In.a0) (fun (v_6 : Bool) =>
 (if v_6 = true then j6 (q1u xv_4.In.a1 xv_5.In.a1) (fun (v_7 : Bool) =>
 (if v_7 = true then j6 (q1u xv_4.Sent xv_5.Sent) (fun (v_8 : Bool) =>
 (if (!v_8) = true then some false
 else rec_1 (i64.wrap (i_1 + 1))))
 else some false))
 else some false)))))
 else some true)
def q4k (a_0 : List GSlot) (b_0 : List GSlot) : Option Bool :=
 (if (!((List.length a_0 : Int) == (List.length b_0 : Int))) = true then some false
 else p9 (q3i a_0 b_0) rounds 0)
theorem qn8 (a_0 : List GSlot) (b_0 : List GSlot)  (r : Bool) (h : q4k a_0 b_0 = some r) : PureS Tryz.prog 42 [.sl 10 (enc a_0), .sl 10 (enc b_0)] 0 (.v (.bool r)) := by
 unfold PureS; refine Spec.of_vc Tryz.func42 rfl (by kernel_rfl) (by kernel_rfl) ?_; rw [q4k] at h; refine sg fun _ Q1 => ?_; simp only [go_sem]; refine q8 Q1 (sg fun _ Q2 => ?_); refine sg fun _ Q3 => ?_; simp only [go_sem]; refine q8 Q3 ?_; refine j3 (b := (!((List.length a_0 : Int) == (List.length b_0 : Int)))) (by (simp only [go_sem]; done)) (fun hb_0 => ?_) (fun hb_0 => ?_)
 · replace h := x9 h hb_0; simp only [bool_to_prop] at hb_0; refine sg fun _ Q4 => ?_; simp only [go_sem]; refine q8 Q4 (z8 (y5 Q2 ?_)); simp only [go_sem]; obtain rfl := Option.some.inj h; refine j5 rfl ?_; simp only [go_sem, Le]
 ·
  replace h := u6 h hb_0; simp only [bool_to_prop] at hb_0; refine j4 (q8 Q2 (q0a (by kernel_rfl) ?_)); refine q0c ?_; intro _ Q5; refine sg fun _ Q6 => ?_; simp only [go_sem]; refine q8 Q6 (y7 ?_); intro _ Q7; refine q06 ?_; refine q0g (ι := Nat × Int) (fun ((_, i_1) : Nat × Int) => (⟨0, [(0, .sl 10 (enc a_0)), (1, .sl 10 (enc b_0)), (5, .v (.int .i64 i_1))], [], 0, 74⟩ : St)) (fun ((n_, i_1) : Nat × Int) => p9 (q3i a_0 b_0) n_ i_1 = some r) (fun p => p.1) (rounds, 0) [] ?_ h ?_
  · simp only [go_sem, Le]
  ·
   rintro ⟨n_1, i_1⟩ h _ Q8; dsimp only at h; replace h := q08 h; obtain ⟨m_1, rfl, h⟩ := h; rw [q3i] at h; refine sg fun _ Q9 => ?_; refine sg fun _ Q10 => ?_; simp only [go_sem]; refine q8 Q10 ?_; refine j3 (b := (decide (i_1 < (List.length a_0 : Int)))) (by (simp only [go_sem]; done)) (fun hb_11 => ?_) (fun hb_11 => ?_)
   ·
    replace h := x9 h hb_11; simp only [bool_to_prop] at hb_11; refine j4 (q8 Q9 (sg fun _ Q11 => ?_)); refine y7 ?_; intro _ Q12; refine sg fun _ Q13 => ?_; refine q0q ?_; refine q7b 11 0 10 [0, 0, 3, 7, 0, 0, 48, 112, 0, 0, 783, 2047] [0, 1] [0, 1, 2, 3, 4, 5, 6, 7] [] [10] [8, 9] mixed (by kernel_rfl) (of_decide_eq_true (by kernel_rfl)) (by kernel_rfl) (by kernel_rfl) (by rfl) ?_; obtain ⟨xv_4, ex4, h⟩ := q9 h; obtain ⟨f4a, f4b, f4c⟩ := u7 ex4; obtain ⟨xv_5, ex5, h⟩ := q9 h; obtain ⟨f5a, f5b, f5c⟩ := u7 ex5; simp only [go_sem, f4a, f4b, f4c, f5a, f5b, f5c]; refine And.intro (by omega) ?_; refine And.intro (by omega) ?_; refine q8 Q13 (sg fun _ Q14 => ?_); simp only [go_sem]; refine And.intro (by omega) ?_; rcases hb_12 : (((!((xv_4.Time.D == xv_5.Time.D) && ((xv_4.Time.C.a0 == xv_5.Time.C.a0) && ((xv_4.Time.C.a1 == xv_5.Time.C.a1) && ((xv_4.Time.C.a2 == xv_5.Time.C.a2) && (xv_4.Time.C.a3 == xv_5.Time.C.a3)))))) || (!(xv_4.Dirty == xv_5.Dirty))) || (!(xv_4.Fired == xv_5.Fired))) with _ | _
    ·
     replace h := u6 h hb_12; obtain ⟨v_6, ev_6, h⟩ := q9 h; simp only [go_sem, hb_12]; refine q0f (q66 xv_4.In.a0 xv_5.In.a0 v_6 ev_6) (by rfl) (by rfl) ?_; simp only [go_sem]; rcases hb_13 : v_6 with _ | _
     · replace h := u6 h hb_13; simp only [go_sem, hb_13]; refine q8 Q14 ?_; refine q0o (by (simp only [go_sem]; done)) ?_; refine sg fun _ Q15 => ?_; simp only [go_sem]; refine q8 Q15 (z8 (y9 Q12 (y5 Q11 (q04 Q8 (y9 Q7 (y5 Q5 ?_)))))); simp only [go_sem]; obtain rfl := Option.some.inj h; refine j5 rfl ?_; simp only [go_sem, Le]
     ·
      replace h := x9 h hb_13; obtain ⟨v_7, ev_7, h⟩ := q9 h; simp only [go_sem, hb_13]; refine q0f (q66 xv_4.In.a1 xv_5.In.a1 v_7 ev_7) (by rfl) (by rfl) ?_; simp only [go_sem]; rcases hb_14 : v_7 with _ | _
      · replace h := u6 h hb_14; simp only [go_sem, hb_14]; refine q8 Q14 ?_; refine q0o (by (simp only [go_sem]; done)) ?_; refine sg fun _ Q16 => ?_; simp only [go_sem]; refine q8 Q16 (z8 (y9 Q12 (y5 Q11 (q04 Q8 (y9 Q7 (y5 Q5 ?_)))))); simp only [go_sem]; obtain rfl := Option.some.inj h; refine j5 rfl ?_; simp only [go_sem, Le]
      ·
       replace h := x9 h hb_14; obtain ⟨v_8, ev_8, h⟩ := q9 h; simp only [go_sem, hb_14]; refine q0f (q66 xv_4.Sent xv_5.Sent v_8 ev_8) (by rfl) (by rfl) ?_; simp only [go_sem]; refine q8 Q14 ?_; refine j3 (b := (!v_8)) (by (simp only [go_sem]; done)) (fun hb_15 => ?_) (fun hb_15 => ?_)
       · replace h := x9 h hb_15; simp only [bool_to_prop] at hb_15; refine sg fun _ Q17 => ?_; simp only [go_sem]; refine q8 Q17 (z8 (y9 Q12 (y5 Q11 (q04 Q8 (y9 Q7 (y5 Q5 ?_)))))); simp only [go_sem]; obtain rfl := Option.some.inj h; refine j5 rfl ?_; simp only [go_sem, Le]
       · replace h := u6 h hb_15; simp only [bool_to_prop] at hb_15; refine j4 (y8 Q12 (q8 Q11 ?_)); simp only [go_sem]; refine w9 Q8 (⟨(m_1, i64.wrap (i_1 + 1)), [], ?_, h, Nat.lt_succ_self _⟩); simp only [go_sem, Le]
    · replace h := x9 h hb_12; simp only [go_sem, hb_12]; refine q8 Q14 ?_; refine q0o (by (simp only [go_sem]; done)) ?_; refine sg fun _ Q18 => ?_; simp only [go_sem]; refine q8 Q18 (z8 (y9 Q12 (y5 Q11 (q04 Q8 (y9 Q7 (y5 Q5 ?_)))))); simp only [go_sem]; obtain rfl := Option.some.inj h; refine j5 rfl ?_; simp only [go_sem, Le]
   · replace h := u6 h hb_11; simp only [bool_to_prop] at hb_11; refine q03 (q09 Q9 (q07 Q8 (d9 Q7 (q8 Q5 (sg fun _ Q19 => ?_))))); simp only [go_sem]; refine q8 Q19 (z8 ?_); simp only [go_sem]; obtain rfl := Option.some.inj h; refine j5 rfl ?_; simp only [go_sem, Le]

def q3l (a_0 : List GTime) (b_0 : List GTime) (rec_1 : Int → Option Bool) : Int → Option Bool :=
 fun i_1 =>
 (if (decide (i_1 < (List.length a_0 : Int))) = true then j6 (idx a_0 i_1) (fun (xv_4 : GTime) =>
 j6 (idx b_0 i_1) (fun (xv_5 : GTime) =>
 (if (!((xv_4.D == xv_5.D) && ((xv_4.C.a0 == xv_5.C.a0) && ((xv_4.C.a1 == xv_5.C.a1) && ((xv_4.C.a2 == xv_5.C.a2) && (xv_4.C.a3 == xv_5.C.a3)))))) = true then some false
 else rec_1 (i64.wrap (i_1 + 1)))))
 else some true)
def q2e (a_0 : List GTime) (b_0 : List GTime) : Option Bool :=
 (if (!((List.length a_0 : Int) == (List.length b_0 : Int))) = true then some false
 else p9 (q3l a_0 b_0) rounds 0)
theorem qo1 (a_0 : List GTime) (b_0 : List GTime)  (r : Bool) (h : q2e a_0 b_0 = some r) : PureS Tryz.prog 43 [.sl 5 (enc a_0), .sl 5 (enc b_0)] 0 (.v (.bool r)) := by
 unfold PureS; refine Spec.of_vc Tryz.func43 rfl (by kernel_rfl) (by kernel_rfl) ?_; rw [q2e] at h; refine sg fun _ Q1 => ?_; simp only [go_sem]; refine q8 Q1 (sg fun _ Q2 => ?_); refine sg fun _ Q3 => ?_; simp only [go_sem]; refine q8 Q3 ?_; refine j3 (b := (!((List.length a_0 : Int) == (List.length b_0 : Int)))) (by (simp only [go_sem]; done)) (fun hb_0 => ?_) (fun hb_0 => ?_)
 · replace h := x9 h hb_0; simp only [bool_to_prop] at hb_0; refine sg fun _ Q4 => ?_; simp only [go_sem]; refine q8 Q4 (z8 (y5 Q2 ?_)); simp only [go_sem]; obtain rfl := Option.some.inj h; refine j5 rfl ?_; simp only [go_sem, Le]
 ·
  replace h := u6 h hb_0; simp only [bool_to_prop] at hb_0; refine j4 (q8 Q2 (q0a (by kernel_rfl) ?_)); refine q0c ?_; intro _ Q5; refine sg fun _ Q6 => ?_; simp only [go_sem]; refine q8 Q6 (y7 ?_); intro _ Q7; refine q06 ?_; refine q0g (ι := Nat × Int) (fun ((_, i_1) : Nat × Int) => (⟨0, [(0, .sl 5 (enc a_0)), (1, .sl 5 (enc b_0)), (5, .v (.int .i64 i_1))], [], 0, 26⟩ : St)) (fun ((n_, i_1) : Nat × Int) => p9 (q3l a_0 b_0) n_ i_1 = some r) (fun p => p.1) (rounds, 0) [] ?_ h ?_
  · simp only [go_sem, Le]
  ·
   rintro ⟨n_1, i_1⟩ h _ Q8; dsimp only at h; replace h := q08 h; obtain ⟨m_1, rfl, h⟩ := h; rw [q3l] at h; refine sg fun _ Q9 => ?_; refine sg fun _ Q10 => ?_; simp only [go_sem]; refine q8 Q10 ?_; refine j3 (b := (decide (i_1 < (List.length a_0 : Int)))) (by (simp only [go_sem]; done)) (fun hb_5 => ?_) (fun hb_5 => ?_)
   ·
    replace h := x9 h hb_5; simp only [bool_to_prop] at hb_5; refine j4 (q8 Q9 (sg fun _ Q11 => ?_)); refine y7 ?_; intro _ Q12; refine sg fun _ Q13 => ?_; refine q0q ?_; refine q0l 8 [0, 0, 3, 7, 0, 0, 48, 112, 255] mixed (by kernel_rfl) (of_decide_eq_true (by kernel_rfl)) (by kernel_rfl) ?_; obtain ⟨xv_4, ex4, h⟩ := q9 h; obtain ⟨f4a, f4b, f4c⟩ := u7 ex4; obtain ⟨xv_5, ex5, h⟩ := q9 h; obtain ⟨f5a, f5b, f5c⟩ := u7 ex5; simp only [go_sem, f4a, f4b, f4c, f5a, f5b, f5c]; refine And.intro (by omega) ?_; refine And.intro (by omega) ?_; refine q8 Q13 ?_; refine j3 (b := (!((xv_4.D == xv_5.D) && ((xv_4.C.a0 == xv_5.C.a0) && ((xv_4.C.a1 == xv_5.C.a1) && ((xv_4.C.a2 == xv_5.C.a2) && (xv_4.C.a3 == xv_5.C.a3))))))) (by (simp only [go_sem]; done)) (fun hb_6 => ?_) (fun hb_6 => ?_)
    · replace h := x9 h hb_6; simp only [bool_to_prop] at hb_6; refine sg fun _ Q14 => ?_; simp only [go_sem]; refine q8 Q14 (z8 (y9 Q12 (y5 Q11 (q04 Q8 (y9 Q7 (y5 Q5 ?_)))))); simp only [go_sem]; obtain rfl := Option.some.inj h; refine j5 rfl ?_; simp only [go_sem, Le]
    · replace h := u6 h hb_6; simp only [bool_to_prop] at hb_6; refine j4 (y8 Q12 (q8 Q11 ?_)); simp only [go_sem]; refine w9 Q8 (⟨(m_1, i64.wrap (i_1 + 1)), [], ?_, h, Nat.lt_succ_self _⟩); simp only [go_sem, Le]
   · replace h := u6 h hb_5; simp only [bool_to_prop] at hb_5; refine q03 (q09 Q9 (q07 Q8 (d9 Q7 (q8 Q5 (sg fun _ Q15 => ?_))))); simp only [go_sem]; refine q8 Q15 (z8 ?_); simp only [go_sem]; obtain rfl := Option.some.inj h; refine j5 rfl ?_; simp only [go_sem, Le]

def qd1 (c_0 : List GSlot) (rec_1 : Int × (List GTime) → Option (List GTime)) : Int × (List GTime) → Option (List GTime) :=
 fun (t11_1, a_1) =>
 (if (decide (t11_1 < (List.length c_0 : Int))) = true then j6 (idx c_0 t11_1) (fun (xv_2 : GSlot) =>
 (if xv_2.Dirty = true then q0v ((List.length a_1 + List.length ([xv_2.Time] : List GTime)) * 40 ≤ 140737488355328) (
 rec_1 (i64.wrap (t11_1 + 1), (a_1 ++ ([xv_2.Time] : List GTime))))
 else rec_1 (i64.wrap (t11_1 + 1), a_1)))
 else some a_1)
def qm2 (c_0 : List GSlot) : Option (List GTime) :=
 j6 (q5b c_0) (fun (v_0 : Bool) =>
 (if (!v_0) = true then some ([] : List GTime)
 else p9 (qd1 c_0) rounds (0, [])))
theorem z0j (c_0 : List GSlot)  (r : List GTime) (h : qm2 c_0 = some r) : DetS Tryz.prog 86 [.sl 10 (enc c_0)] [] 0 (.osl 0 5 (0) (List.length r)) [(0, .arr 5 (enc r))] 1 := by
 unfold DetS; refine Spec.of_vc Tryz.func86 rfl (by kernel_rfl) (by kernel_rfl) ?_; rw [qm2] at h; refine sg fun _ Q1 => ?_; simp only [go_sem]; refine q8 Q1 (sg fun _ Q2 => ?_); simp only [go_sem]; refine q8 Q2 (sg fun _ Q3 => ?_); refine sg fun _ Q4 => ?_; obtain ⟨v_0, ev_0, h⟩ := q9 h; simp only [go_sem]; refine q0f (q8b c_0 v_0 ev_0) (by rfl) (by rfl) ?_; simp only [go_sem]; refine q8 Q4 ?_; refine j3 (b := (!v_0)) (by (simp only [go_sem]; done)) (fun hb_0 => ?_) (fun hb_0 => ?_)
 · replace h := x9 h hb_0; simp only [bool_to_prop] at hb_0; refine sg fun _ Q5 => ?_; simp only [go_sem]; refine q8 Q5 (z8 (y5 Q3 ?_)); simp only [go_sem]; obtain rfl := Option.some.inj h; refine q0e [none] ?_; simp only [go_sem, Le] <;> (repeat' apply And.intro) <;> ((try with_reducible refine x8 ?_); (simp [go_sem]; done))
 ·
  replace h := u6 h hb_0; simp only [bool_to_prop] at hb_0; refine j4 (q8 Q3 (q0a (by kernel_rfl) ?_)); refine q0c ?_; intro _ Q6; refine sg fun _ Q7 => ?_; simp only [go_sem]; refine q8 Q7 (y7 ?_); intro _ Q8; refine q06 ?_; refine q0g (ι := Nat × Int × (List GTime)) (fun ((_, t11_1, a_1) : Nat × Int × (List GTime)) => (⟨0, [(3, .osl 0 5 (0) (List.length a_1)), (9, .sl 10 (enc c_0)), (10, .v (.int .i64 (List.length c_0 : Int))), (11, .v (.int .i64 t11_1))], [(0, .arr 5 (enc a_1))], 1, 24⟩ : St)) (fun ((n_, t11_1, a_1) : Nat × Int × (List GTime)) => p9 (qd1 c_0) n_ (t11_1, a_1) = some r) (fun p => p.1) (rounds, 0, []) [none] ?_ h ?_
  · simp only [go_sem, Le] <;> (repeat' apply And.intro) <;> ((try with_reducible refine x8 ?_); (simp [go_sem]; done))
  ·
   rintro ⟨n_1, t11_1, a_1⟩ h _ Q9; dsimp only at h; replace h := q08 h; obtain ⟨m_1, rfl, h⟩ := h; rw [qd1] at h; refine sg fun _ Q10 => ?_; simp only [go_sem]; refine q8 Q10 (sg fun _ Q11 => ?_); refine j3 (b := (decide (t11_1 < (List.length c_0 : Int)))) (by (simp only [go_sem]; done)) (fun hb_5 => ?_) (fun hb_5 => ?_)
   ·
    replace h := x9 h hb_5; simp only [bool_to_prop] at hb_5; refine j4 (q8 Q11 (q0a (by kernel_rfl) ?_)); refine q0c ?_; intro _ Q12; refine y7 ?_; intro _ Q13; refine sg fun _ Q14 => ?_; obtain ⟨xv_2, ex2, h⟩ := q9 h; obtain ⟨f2a, f2b, f2c⟩ := u7 ex2; simp only [go_sem, f2a, f2b, f2c]; refine And.intro (by omega) ?_; refine q8 Q14 (sg fun _ Q15 => ?_); simp only [go_sem]; refine q8 Q15 ?_; refine j3 (b := xv_2.Dirty) (by (simp only [go_sem]; done)) (fun hb_6 => ?_) (fun hb_6 => ?_)
    ·
     replace h := x9 h hb_6; have rf_3 : [[.v (.int .i64 xv_2.Time.D), .v (.int .i64 xv_2.Time.C.a0), .v (.int .i64 xv_2.Time.C.a1), .v (.int .i64 xv_2.Time.C.a2), .v (.int .i64 xv_2.Time.C.a3)]] = enc ([xv_2.Time] : List GTime) := by rfl
     obtain ⟨g_2, h⟩ := q0k h; simp only [List.length_cons, List.length_nil, Nat.zero_add, List.length_append] at g_2; have rf_4 : enc a_1 ++ [[.v (.int .i64 xv_2.Time.D), .v (.int .i64 xv_2.Time.C.a0), .v (.int .i64 xv_2.Time.C.a1), .v (.int .i64 xv_2.Time.C.a2), .v (.int .i64 xv_2.Time.C.a3)]] = enc (a_1 ++ ([xv_2.Time] : List GTime)) := by exact (q6a a_1 ([xv_2.Time] : List GTime)).symm
     simp only [go_sem, g_2, rf_4]; simp only [rf_3]; refine y8 Q13 (q8 Q12 ?_); simp only [go_sem]; refine w9 Q9 (⟨(m_1, i64.wrap (t11_1 + 1), (a_1 ++ ([xv_2.Time] : List GTime))), [some 3], ?_, h, Nat.lt_succ_self _⟩); simp only [go_sem, Le] <;> (repeat' apply And.intro) <;> ((try with_reducible refine x8 ?_); (simp [go_sem]; done))
    · replace h := u6 h hb_6; refine j4 (y8 Q13 (q8 Q12 ?_)); simp only [go_sem]; refine w9 Q9 (⟨(m_1, i64.wrap (t11_1 + 1), a_1), [some 0], ?_, h, Nat.lt_succ_self _⟩); simp only [go_sem, Le]
   · replace h := u6 h hb_5; simp only [bool_to_prop] at hb_5; refine q03 (q09 Q11 (q07 Q9 (d9 Q8 (q8 Q6 (sg fun _ Q16 => ?_))))); simp only [go_sem]; refine q8 Q16 (z8 ?_); simp only [go_sem]; obtain rfl := Option.some.inj h; refine q0e [some 0] ?_; simp only [go_sem, Le]
def q91 (nv_0 : Int) (size_0 : Int) : Option Bool :=
 some ((decide (0 ≤ nv_0)) && (decide (nv_0 < size_0)))
theorem qi9 (nv_0 : Int) (size_0 : Int)  (r : Bool) (h : q91 nv_0 size_0 = some r) : PureS Tryz.prog 126 [.v (.int .i64 nv_0), .v (.int .i64 size_0)] 0 (.v (.bool r)) := by
 unfold PureS; refine Spec.of_vc Tryz.func126 rfl (by kernel_rfl) (by kernel_rfl) ?_; rw [q91] at h; refine sg fun _ Q1 => ?_; simp only [go_sem]; refine q8 Q1 (sg fun _ Q2 => ?_); simp only [go_sem]; refine q8 Q2 (z8 ?_); simp only [go_sem]; obtain rfl := Option.some.inj h; refine j5 rfl ?_; simp only [go_sem, Le]

def q9z (g_0 : GGraph) (rec_1 : Int × Int → Option Int) : Int × Int → Option Int :=
 fun (d_1, s_1) =>
 j6 (q91 s_1 (List.length g_0.Parent : Int)) (fun (v_2 : Bool) =>
 (if (v_2 && (decide (d_1 ≤ 8))) = true then j6 (idx g_0.Parent s_1) (fun (xv_2 : Int) =>
 rec_1 (i64.wrap (d_1 + 1), xv_2))
 else some d_1))
def qi5 (g_0 : GGraph) (scope_0 : Int) : Option Int :=
 p9 (q9z g_0) rounds (0, scope_0)
theorem z0d (g_0 : GGraph) (scope_0 : Int)  (r : Int) (h : qi5 g_0 scope_0 = some r) : PureS Tryz.prog 127 [.agg [.sl 1 (enc g_0.Parent), .sl 1 (enc g_0.Bound), .sl 4 (enc g_0.Nodes), .sl 4 (enc g_0.Edges)], .v (.int .i64 scope_0)] 0 (.v (.int .i64 r)) := by
 unfold PureS; refine Spec.of_vc Tryz.func127 rfl (by kernel_rfl) (by kernel_rfl) ?_; rw [qi5] at h; refine sg fun _ Q1 => ?_; simp only [go_sem]; refine q8 Q1 (sg fun _ Q2 => ?_); simp only [go_sem]; refine q8 Q2 (q0a (by kernel_rfl) ?_); refine q0c ?_; intro _ Q3; refine sg fun _ Q4 => ?_; simp only [go_sem]; refine q8 Q4 (y7 ?_); intro _ Q5; refine q06 ?_; refine q0g (ι := Nat × Int × Int) (fun ((_, d_1, s_1) : Nat × Int × Int) => (⟨0, [(2, .ptr 0 0), (5, .v (.int .i64 d_1)), (6, .v (.int .i64 s_1))], [(0, .box [.sl 1 (enc g_0.Parent), .sl 1 (enc g_0.Bound), .sl 4 (enc g_0.Nodes), .sl 4 (enc g_0.Edges)])], 1, 25⟩ : St)) (fun ((n_, d_1, s_1) : Nat × Int × Int) => p9 (q9z g_0) n_ (d_1, s_1) = some r) (fun p => p.1) (rounds, 0, scope_0) [some 0] ?_ h ?_
 · simp only [go_sem, Le]
 ·
  rintro ⟨n_1, d_1, s_1⟩ h _ Q6; dsimp only at h; replace h := q08 h; obtain ⟨m_1, rfl, h⟩ := h; rw [q9z] at h; refine sg fun _ Q7 => ?_; refine sg fun _ Q8 => ?_; obtain ⟨v_2, ev_2, h⟩ := q9 h; simp only [go_sem]; refine q0f (qi9 s_1 (List.length g_0.Parent : Int) v_2 ev_2) (by rfl) (by rfl) ?_; simp only [go_sem]; refine q8 Q8 ?_; refine j3 (b := (v_2 && (decide (d_1 ≤ 8)))) (by (simp only [go_sem]; done)) (fun hb_2 => ?_) (fun hb_2 => ?_)
  · replace h := x9 h hb_2; simp only [bool_to_prop] at hb_2; refine j4 (q8 Q7 (sg fun _ Q9 => ?_)); refine y7 ?_; intro _ Q10; simp only [go_sem]; refine y8 Q10 (q8 Q9 ?_); obtain ⟨xv_2, ex2, h⟩ := q9 h; obtain ⟨f2a, f2b, f2c⟩ := u7 ex2; simp only [go_sem, f2a, f2b, f2c]; refine And.intro (by omega) ?_; refine w9 Q6 (⟨(m_1, i64.wrap (d_1 + 1), xv_2), [some 0], ?_, h, Nat.lt_succ_self _⟩); simp only [go_sem, Le]
  · replace h := u6 h hb_2; simp only [bool_to_prop] at hb_2; refine q03 (q09 Q7 (q07 Q6 (d9 Q5 (q8 Q3 (sg fun _ Q11 => ?_))))); simp only [go_sem]; refine q8 Q11 (z8 ?_); simp only [go_sem]; obtain rfl := Option.some.inj h; refine j5 rfl ?_; simp only [go_sem, Le]

def q4o (g_0 : GGraph) (rec_1 : Int × (List Int) → Option (List Int)) : Int × (List Int) → Option (List Int) :=
 fun (s_2, a_1) =>
 (if (((decide (0 ≤ s_2)) && (decide (s_2 < (List.length g_0.Parent : Int)))) && (decide ((List.length a_1 : Int) < 10))) = true then q0v ((List.length ([s_2] : List Int) + List.length a_1) * 8 ≤ 140737488355328) (
 j6 (idx g_0.Parent s_2) (fun (xv_2 : Int) =>
 rec_1 (xv_2, (([s_2] : List Int) ++ a_1))))
 else some a_1)
def q26 (g_0 : GGraph) (s_0 : Int) : Option (List Int) :=
 p9 (q4o g_0) rounds (s_0, [])
theorem q4a (g_0 : GGraph) (s_0 : Int)  (r : List Int) (h : q26 g_0 s_0 = some r) : DetS Tryz.prog 68 [.agg [.sl 1 (enc g_0.Parent), .sl 1 (enc g_0.Bound), .sl 4 (enc g_0.Nodes), .sl 4 (enc g_0.Edges)], .v (.int .i64 s_0)] [] 0 (.osl 0 1 (0) (List.length r)) [(0, .arr 1 (enc r))] 1 := by
 unfold DetS; refine Spec.of_vc Tryz.func68 rfl (by kernel_rfl) (by kernel_rfl) ?_; rw [q26] at h; refine sg fun _ Q1 => ?_; simp only [go_sem]; refine q8 Q1 (sg fun _ Q2 => ?_); simp only [go_sem]; refine q8 Q2 (q0a (by kernel_rfl) ?_); refine q0c ?_; intro _ Q3; refine y7 ?_; intro _ Q4; refine q06 ?_; refine q0g (ι := Nat × Int × (List Int)) (fun ((_, s_2, a_1) : Nat × Int × (List Int)) => (⟨0, [(1, .v (.int .i64 s_2)), (2, .ptr 0 0), (5, .osl 1 1 (0) (List.length a_1))], [(0, .box [.sl 1 (enc g_0.Parent), .sl 1 (enc g_0.Bound), .sl 4 (enc g_0.Nodes), .sl 4 (enc g_0.Edges)]), (1, .arr 1 (enc a_1))], 2, 30⟩ : St)) (fun ((n_, s_2, a_1) : Nat × Int × (List Int)) => p9 (q4o g_0) n_ (s_2, a_1) = some r) (fun p => p.1) (rounds, s_0, []) [some 0, none] ?_ h ?_
 · simp only [go_sem, Le] <;> (repeat' apply And.intro) <;> ((try with_reducible refine x8 ?_); (simp [go_sem]; done))
 ·
  rintro ⟨n_1, s_2, a_1⟩ h _ Q5; dsimp only at h; replace h := q08 h; obtain ⟨m_1, rfl, h⟩ := h; rw [q4o] at h; refine sg fun _ Q6 => ?_; refine sg fun _ Q7 => ?_; simp only [go_sem]; refine q8 Q7 ?_; refine j3 (b := (((decide (0 ≤ s_2)) && (decide (s_2 < (List.length g_0.Parent : Int)))) && (decide ((List.length a_1 : Int) < 10)))) (by (simp only [go_sem]; done)) (fun hb_2 => ?_) (fun hb_2 => ?_)
  ·
   replace h := x9 h hb_2; simp only [bool_to_prop] at hb_2; refine j4 (q8 Q6 (y7 ?_)); intro _ Q8; refine sg fun _ Q9 => ?_; have rf_4 : [[.v (.int .i64 s_2)]] = enc ([s_2] : List Int) := by rfl
   obtain ⟨g_3, h⟩ := q0k h; simp only [List.length_cons, List.length_nil, Nat.zero_add, List.length_append] at g_3; have rf_5 : [[.v (.int .i64 s_2)]] ++ enc a_1 = enc (([s_2] : List Int) ++ a_1) := by exact (q6a ([s_2] : List Int) a_1).symm
   simp only [go_sem, g_3, rf_5]; refine And.intro (by (intros; simp_all; done)) ?_; refine q8 Q9 ?_; obtain ⟨xv_2, ex2, h⟩ := q9 h; obtain ⟨f2a, f2b, f2c⟩ := u7 ex2; simp only [go_sem, f2a, f2b, f2c]; refine And.intro (by omega) ?_; refine y8 Q8 (w9 Q5 (⟨(m_1, xv_2, (([s_2] : List Int) ++ a_1)), [some 0, some 3], ?_, h, Nat.lt_succ_self _⟩)); simp only [go_sem, Le] <;> (repeat' apply And.intro) <;> (try with_reducible refine x8 ?_) <;> first | omega | (simp [go_sem]; done) | ((try with_reducible refine x8 ?_); (simp [q1f, enc]; omega)) | ((try with_reducible refine x8 ?_); (simp [enc, qe3, q9v, qv7, q8d, z8v, z6p, zc6, z6o]; done))
  · replace h := u6 h hb_2; simp only [bool_to_prop] at hb_2; refine q03 (q09 Q6 (q07 Q5 (d9 Q4 (q8 Q3 (sg fun _ Q10 => ?_))))); simp only [go_sem]; refine q8 Q10 (z8 ?_); simp only [go_sem]; obtain rfl := Option.some.inj h; refine q0e [some 1] ?_; simp only [go_sem, Le]
def q1p (g_0 : GGraph) (nv_0 : Int) (xv_0 : GNode) (rec_2 : Int → Option Bool) : Int → Option Bool :=
 fun i_3 =>
 (if (decide (i_3 < nv_0)) = true then j6 (idx g_0.Nodes i_3) (fun (xv_10 : GNode) =>
 (if (xv_10.Scope == xv_0.Scope) = true then some false
 else rec_2 (i64.wrap (i_3 + 1))))
 else some true)
def q2f (g_0 : GGraph) (nv_0 : Int) (xv_0 : GNode) (under_2 : Bool) : Option Bool :=
 (if (!under_2) = true then some false
 else p9 (q1p g_0 nv_0 xv_0) rounds 0)
def q2g (g_0 : GGraph) (nv_0 : Int) (xv_0 : GNode) (v_0 : List Int) (rec_3 : Bool × Int → Option Bool) : Bool × Int → Option Bool :=
 fun (under_4, i_5) =>
 (if (decide (i_5 < (List.length v_0 : Int))) = true then j6 (idx v_0 i_5) (fun (xv_15 : Int) =>
 (if (xv_15 == xv_0.Scope) = true then some true
 else (if under_4 = true then rec_3 (true, i64.wrap (i_5 + 1))
 else j6 (idx g_0.Parent xv_0.Scope) (fun (xv_16 : Int) =>
 rec_3 ((xv_15 == xv_16), i64.wrap (i_5 + 1))))))
 else q2f g_0 nv_0 xv_0 under_4)
def q3j (g_0 : GGraph) (nv_0 : Int) : Option Bool :=
 j6 (idx g_0.Nodes nv_0) (fun (xv_0 : GNode) =>
 (if (nv_0 == 0) = true then some (xv_0.Scope == 0)
 else j6 (idx g_0.Nodes (i64.wrap (nv_0 - 1))) (fun (xv_1 : GNode) =>
 j6 (q26 g_0 xv_1.Scope) (fun (v_0 : List Int) =>
 p9 (q2g g_0 nv_0 xv_0 v_0) rounds (false, 0)))))
theorem qi8 (g_0 : GGraph) (nv_0 : Int)  (r : Bool) (h : q3j g_0 nv_0 = some r) : PureS Tryz.prog 132 [.agg [.sl 1 (enc g_0.Parent), .sl 1 (enc g_0.Bound), .sl 4 (enc g_0.Nodes), .sl 4 (enc g_0.Edges)], .v (.int .i64 nv_0)] 0 (.v (.bool r)) := by
 unfold PureS; refine Spec.of_vc Tryz.func132 rfl (by kernel_rfl) (by kernel_rfl) ?_; rw [q3j] at h; refine sg fun _ Q1 => ?_; simp only [go_sem]; refine q8 Q1 (sg fun _ Q2 => ?_); obtain ⟨xv_0, ex0, h⟩ := q9 h; obtain ⟨f0a, f0b, f0c⟩ := u7 ex0; simp only [go_sem, f0a, f0b, f0c]; refine And.intro (by omega) ?_; refine q8 Q2 (sg fun _ Q3 => ?_); refine sg fun _ Q4 => ?_; simp only [go_sem]; refine q8 Q4 ?_; refine j3 (b := (nv_0 == 0)) (by (simp only [go_sem]; done)) (fun hb_0 => ?_) (fun hb_0 => ?_)
 · replace h := x9 h hb_0; simp only [bool_to_prop] at hb_0; refine sg fun _ Q5 => ?_; simp only [go_sem]; refine q8 Q5 (z8 (y5 Q3 ?_)); simp only [go_sem]; obtain rfl := Option.some.inj h; refine j5 rfl ?_; simp only [go_sem, Le]
 ·
  replace h := u6 h hb_0; simp only [bool_to_prop] at hb_0; refine j4 (q8 Q3 (sg fun _ Q6 => ?_)); refine q0q ?_; refine q0l 8 [0, 0, 2, 0, 8, 30, 62, 126, 255, 511] mixed (by kernel_rfl) (of_decide_eq_true (by kernel_rfl)) (by kernel_rfl) ?_; obtain ⟨xv_1, ex1, h⟩ := q9 h; obtain ⟨f1a, f1b, f1c⟩ := u7 ex1; obtain ⟨v_0, ev_0, h⟩ := q9 h; simp only [go_sem, f1a, f1b, f1c]; refine And.intro (by omega) ?_; refine q19 [] (q4a g_0 xv_1.Scope v_0 ev_0) (by simp) rfl trivial rfl rfl rfl rfl ?_; simp only [go_sem]; refine q8 Q6 (sg fun _ Q7 => ?_); simp only [go_sem]; refine q8 Q7 (q0a (by kernel_rfl) ?_); refine q0x (ι := Bool) (fun (under_2 : Bool) => (⟨0, [(1, .v (.int .i64 nv_0)), (2, .ptr 0 0), (5, .v (.int .i64 xv_0.Scope)), (7, .v (.bool under_2))], [(0, .box [.sl 1 (enc g_0.Parent), .sl 1 (enc g_0.Bound), .sl 4 (enc g_0.Nodes), .sl 4 (enc g_0.Edges)])], 1, 69⟩ : St)) (fun (under_2 : Bool) => q2f g_0 nv_0 xv_0 under_2 = some r) ?_ ?_
  ·
   intro _ Q22; refine sg fun _ Q23 => ?_; simp only [go_sem]; refine q8 Q23 (y7 ?_); intro _ Q24; refine q06 ?_; refine q0g (ι := Nat × Bool × Int) (fun ((_, under_4, i_5) : Nat × Bool × Int) => (⟨0, [(1, .v (.int .i64 nv_0)), (2, .ptr 0 0), (5, .v (.int .i64 xv_0.Scope)), (6, .osl 1 1 (0) (List.length v_0)), (7, .v (.bool under_4)), (8, .v (.int .i64 i_5))], [(0, .box [.sl 1 (enc g_0.Parent), .sl 1 (enc g_0.Bound), .sl 4 (enc g_0.Nodes), .sl 4 (enc g_0.Edges)]), (1, .arr 1 (enc v_0))], 2, 69⟩ : St)) (fun ((n_, under_4, i_5) : Nat × Bool × Int) => p9 (q2g g_0 nv_0 xv_0 v_0) n_ (under_4, i_5) = some r) (fun p => p.1) (rounds, false, 0) [some 0, some 1] ?_ h ?_
   · simp only [go_sem, Le] <;> (repeat' apply And.intro) <;> (try with_reducible refine x8 ?_) <;> first | omega | (simp [go_sem]; done)
   ·
    rintro ⟨n_3, under_4, i_5⟩ h _ Q25; dsimp only at h; replace h := q08 h; obtain ⟨m_3, rfl, h⟩ := h; rw [q2g] at h; refine sg fun _ Q26 => ?_; refine sg fun _ Q27 => ?_; simp only [go_sem]; refine q8 Q27 ?_; refine j3 (b := (decide (i_5 < (List.length v_0 : Int)))) (by (simp only [go_sem]; done)) (fun hb_21 => ?_) (fun hb_21 => ?_)
    ·
     replace h := x9 h hb_21; simp only [bool_to_prop] at hb_21; refine j4 (q8 Q26 (sg fun _ Q28 => ?_)); refine y7 ?_; intro _ Q29; refine sg fun _ Q30 => ?_; refine sg fun _ Q31 => ?_; obtain ⟨xv_15, ex15, h⟩ := q9 h; obtain ⟨f15a, f15b, f15c⟩ := u7 ex15; simp only [go_sem, f15a, f15b, f15c]; refine And.intro (by omega) ?_; refine q8 Q31 ?_; refine j3 (b := (xv_15 == xv_0.Scope)) (by (simp only [go_sem]; done)) (fun hb_22 => ?_) (fun hb_22 => ?_)
     · replace h := x9 h hb_22; simp only [bool_to_prop] at hb_22; refine sg fun _ Q32 => ?_; simp only [go_sem]; refine q8 Q32 (z8 (y5 Q30 (y9 Q29 (y5 Q28 (q04 Q25 (y9 Q24 (q04 Q22 ?_))))))); simp only [go_sem]; obtain rfl := Option.some.inj h; refine j5 rfl ?_; simp only [go_sem, Le]
     ·
      replace h := u6 h hb_22; simp only [bool_to_prop] at hb_22; refine j4 (q8 Q30 (q0q ?_)); refine q0l 11 [0, 1, 3, 3, 15, 31, 3, 67, 3, 451, 963, 2047, 4095, 8191] mixed (by kernel_rfl) (of_decide_eq_true (by kernel_rfl)) (by kernel_rfl) ?_; simp only [go_sem]; rcases hb_23 : under_4 with _ | _
      · replace h := u6 h hb_23; obtain ⟨xv_16, ex16, h⟩ := q9 h; obtain ⟨f16a, f16b, f16c⟩ := u7 ex16; simp only [go_sem, hb_23, f15a, f15b, f15c, f16a, f16b, f16c]; refine And.intro (by omega) ?_; refine And.intro (by omega) ?_; refine y8 Q29 (q8 Q28 ?_); simp only [go_sem]; refine w9 Q25 (⟨(m_3, (xv_15 == xv_16), i64.wrap (i_5 + 1)), [some 0, some 1], ?_, h, Nat.lt_succ_self _⟩); simp only [go_sem, Le] <;> (repeat' apply And.intro) <;> (try with_reducible refine x8 ?_) <;> first | omega | (simp [go_sem]; done)
      · replace h := x9 h hb_23; simp only [go_sem, hb_23]; refine y8 Q29 (q8 Q28 ?_); simp only [go_sem]; refine w9 Q25 (⟨(m_3, true, i64.wrap (i_5 + 1)), [some 0, some 1], ?_, h, Nat.lt_succ_self _⟩); simp only [go_sem, Le] <;> (repeat' apply And.intro) <;> (try with_reducible refine x8 ?_) <;> first | omega | (simp [go_sem]; done)
    · replace h := u6 h hb_21; simp only [bool_to_prop] at hb_21; refine q03 (q09 Q26 (q07 Q25 (d9 Q24 (w9 Q22 (⟨under_4, [some 0], ?_, h⟩))))); simp only [go_sem, Le]
  ·
   rintro under_2 h
   try dsimp only at h
   rw [q2f] at h; refine sg fun _ Q8 => ?_; refine sg fun _ Q9 => ?_; simp only [go_sem]; refine q8 Q9 ?_; refine j3 (b := (!under_2)) (by (simp only [go_sem]; done)) (fun hb_9 => ?_) (fun hb_9 => ?_)
   · replace h := x9 h hb_9; simp only [bool_to_prop] at hb_9; refine sg fun _ Q10 => ?_; simp only [go_sem]; refine q8 Q10 (z8 (y5 Q8 ?_)); simp only [go_sem]; obtain rfl := Option.some.inj h; refine j5 rfl ?_; simp only [go_sem, Le]
   ·
    replace h := u6 h hb_9; simp only [bool_to_prop] at hb_9; refine j4 (q8 Q8 (q0a (by kernel_rfl) ?_)); refine q0c ?_; intro _ Q11; refine sg fun _ Q12 => ?_; simp only [go_sem]; refine q8 Q12 (y7 ?_); intro _ Q13; refine q06 ?_; refine q0g (ι := Nat × Int) (fun ((_, i_3) : Nat × Int) => (⟨0, [(1, .v (.int .i64 nv_0)), (2, .ptr 0 0), (5, .v (.int .i64 xv_0.Scope)), (9, .v (.int .i64 i_3))], [(0, .box [.sl 1 (enc g_0.Parent), .sl 1 (enc g_0.Bound), .sl 4 (enc g_0.Nodes), .sl 4 (enc g_0.Edges)])], 1, 69⟩ : St)) (fun ((n_, i_3) : Nat × Int) => p9 (q1p g_0 nv_0 xv_0) n_ i_3 = some r) (fun p => p.1) (rounds, 0) [some 0] ?_ h ?_
    · simp only [go_sem, Le]
    ·
     rintro ⟨n_2, i_3⟩ h _ Q14; dsimp only at h; replace h := q08 h; obtain ⟨m_2, rfl, h⟩ := h; rw [q1p] at h; refine sg fun _ Q15 => ?_; refine sg fun _ Q16 => ?_; simp only [go_sem]; refine q8 Q16 ?_; refine j3 (b := (decide (i_3 < nv_0))) (by (simp only [go_sem]; done)) (fun hb_14 => ?_) (fun hb_14 => ?_)
     ·
      replace h := x9 h hb_14; simp only [bool_to_prop] at hb_14; refine j4 (q8 Q15 (sg fun _ Q17 => ?_)); refine y7 ?_; intro _ Q18; refine sg fun _ Q19 => ?_; obtain ⟨xv_10, ex10, h⟩ := q9 h; obtain ⟨f10a, f10b, f10c⟩ := u7 ex10; simp only [go_sem, f10a, f10b, f10c]; refine And.intro (by omega) ?_; refine q8 Q19 ?_; refine j3 (b := (xv_10.Scope == xv_0.Scope)) (by (simp only [go_sem]; done)) (fun hb_15 => ?_) (fun hb_15 => ?_)
      · replace h := x9 h hb_15; simp only [bool_to_prop] at hb_15; refine sg fun _ Q20 => ?_; simp only [go_sem]; refine q8 Q20 (z8 (y9 Q18 (y5 Q17 (q04 Q14 (y9 Q13 (y5 Q11 ?_)))))); simp only [go_sem]; obtain rfl := Option.some.inj h; refine j5 rfl ?_; simp only [go_sem, Le]
      · replace h := u6 h hb_15; simp only [bool_to_prop] at hb_15; refine j4 (y8 Q18 (q8 Q17 ?_)); simp only [go_sem]; refine w9 Q14 (⟨(m_2, i64.wrap (i_3 + 1)), [some 0], ?_, h, Nat.lt_succ_self _⟩); simp only [go_sem, Le]
     · replace h := u6 h hb_14; simp only [bool_to_prop] at hb_14; refine q03 (q09 Q15 (q07 Q14 (d9 Q13 (q8 Q11 (sg fun _ Q21 => ?_))))); simp only [go_sem]; refine q8 Q21 (z8 ?_); simp only [go_sem]; obtain rfl := Option.some.inj h; refine j5 rfl ?_; simp only [go_sem, Le]

def q3b (p_0 : List GIns) (rec_1 : Int → Option Bool) : Int → Option Bool :=
 fun i_1 =>
 (if (decide (i_1 < (List.length p_0 : Int))) = true then j6 (idx p_0 i_1) (fun (xv_2 : GIns) =>
 (if ((((decide (xv_2.Op < 1)) || (decide (16 < xv_2.Op))) || (((xv_2.Op == 14) || (xv_2.Op == 15)) && ((decide (xv_2.N < 0)) || (decide ((List.length p_0 : Int) < xv_2.N))))) || ((((!(xv_2.Op == 1)) && (!(xv_2.Op == 14))) && (!(xv_2.Op == 15))) && (!(xv_2.N == 0)))) = true then some false
 else rec_1 (i64.wrap (i_1 + 1))))
 else some (decide ((List.length p_0 : Int) ≤ 64)))
def q48 (p_0 : List GIns) : Option Bool :=
 p9 (q3b p_0) rounds 0
theorem qn0 (p_0 : List GIns)  (r : Bool) (h : q48 p_0 = some r) : PureS Tryz.prog 133 [.sl 2 (enc p_0)] 0 (.v (.bool r)) := by
 unfold PureS; refine Spec.of_vc Tryz.func133 rfl (by kernel_rfl) (by kernel_rfl) ?_; rw [q48] at h; refine sg fun _ Q1 => ?_; simp only [go_sem]; refine q8 Q1 (q0a (by kernel_rfl) ?_); refine q0c ?_; intro _ Q2; refine sg fun _ Q3 => ?_; simp only [go_sem]; refine q8 Q3 (y7 ?_); intro _ Q4; refine q06 ?_; refine q0g (ι := Nat × Int) (fun ((_, i_1) : Nat × Int) => (⟨0, [(0, .sl 2 (enc p_0)), (3, .v (.int .i64 i_1))], [], 0, 65⟩ : St)) (fun ((n_, i_1) : Nat × Int) => p9 (q3b p_0) n_ i_1 = some r) (fun p => p.1) (rounds, 0) [] ?_ h ?_
 · simp only [go_sem, Le]
 ·
  rintro ⟨n_1, i_1⟩ h _ Q5; dsimp only at h; replace h := q08 h; obtain ⟨m_1, rfl, h⟩ := h; rw [q3b] at h; refine sg fun _ Q6 => ?_; refine sg fun _ Q7 => ?_; simp only [go_sem]; refine q8 Q7 ?_; refine j3 (b := (decide (i_1 < (List.length p_0 : Int)))) (by (simp only [go_sem]; done)) (fun hb_4 => ?_) (fun hb_4 => ?_)
  ·
   replace h := x9 h hb_4; simp only [bool_to_prop] at hb_4; refine j4 (q8 Q6 (sg fun _ Q8 => ?_)); refine y7 ?_; intro _ Q9; refine sg fun _ Q10 => ?_; refine q0q ?_; refine q0l 11 [0, 0, 3, 7, 15, 0, 0, 96, 224, 480, 31, 2047] mixed (by kernel_rfl) (of_decide_eq_true (by kernel_rfl)) (by kernel_rfl) ?_; obtain ⟨xv_2, ex2, h⟩ := q9 h; obtain ⟨f2a, f2b, f2c⟩ := u7 ex2; simp only [go_sem, f2a, f2b, f2c]; refine And.intro (by omega) ?_; refine And.intro (by omega) ?_; refine q8 Q10 (sg fun _ Q11 => ?_); simp only [go_sem]; refine And.intro (by first | (simp +contextual only [and_self, implies_true, true_and, and_true, imp_self]; done) | (intros; (repeat' apply And.intro) <;> first | assumption | omega) | (simp +contextual; done)) ?_; refine And.intro (by first | (simp +contextual only [and_self, implies_true, true_and, and_true, imp_self]; done) | (intros; (repeat' apply And.intro) <;> first | assumption | omega) | (simp +contextual; done)) ?_; refine And.intro (by first | (simp +contextual only [and_self, implies_true, true_and, and_true, imp_self]; done) | (intros; (repeat' apply And.intro) <;> first | assumption | omega) | (simp +contextual; done)) ?_; refine And.intro (by first | (simp +contextual only [and_self, implies_true, true_and, and_true, imp_self]; done) | (intros; (repeat' apply And.intro) <;> first | assumption | omega) | (simp +contextual; done)) ?_; refine And.intro (by first | (simp +contextual only [and_self, implies_true, true_and, and_true, imp_self]; done) | (intros; (repeat' apply And.intro) <;> first | assumption | omega) | (simp +contextual; done)) ?_; refine And.intro (by first | (simp +contextual only [and_self, implies_true, true_and, and_true, imp_self]; done) | (intros; (repeat' apply And.intro) <;> first | assumption | omega) | (simp +contextual; done)) ?_
   refine And.intro (by first | (simp +contextual only [and_self, implies_true, true_and, and_true, imp_self]; done) | (intros; (repeat' apply And.intro) <;> first | assumption | omega) | (simp +contextual; done)) ?_; refine q8 Q11 ?_; refine j3 (b := ((((decide (xv_2.Op < 1)) || (decide (16 < xv_2.Op))) || (((xv_2.Op == 14) || (xv_2.Op == 15)) && ((decide (xv_2.N < 0)) || (decide ((List.length p_0 : Int) < xv_2.N))))) || ((((!(xv_2.Op == 1)) && (!(xv_2.Op == 14))) && (!(xv_2.Op == 15))) && (!(xv_2.N == 0))))) (by (simp only [go_sem]; done)) (fun hb_5 => ?_) (fun hb_5 => ?_)
   · replace h := x9 h hb_5; simp only [bool_to_prop] at hb_5; refine sg fun _ Q12 => ?_; simp only [go_sem]; refine q8 Q12 (z8 (y9 Q9 (y5 Q8 (q04 Q5 (y9 Q4 (y5 Q2 ?_)))))); simp only [go_sem]; obtain rfl := Option.some.inj h; refine j5 rfl ?_; simp only [go_sem, Le]
   · replace h := u6 h hb_5; simp only [bool_to_prop] at hb_5; refine j4 (y8 Q9 (q8 Q8 ?_)); simp only [go_sem]; refine w9 Q5 (⟨(m_1, i64.wrap (i_1 + 1)), [], ?_, h, Nat.lt_succ_self _⟩); simp only [go_sem, Le]
  · replace h := u6 h hb_4; simp only [bool_to_prop] at hb_4; refine q03 (q09 Q6 (q07 Q5 (d9 Q4 (q8 Q2 (sg fun _ Q13 => ?_))))); simp only [go_sem]; refine q8 Q13 (z8 ?_); simp only [go_sem]; obtain rfl := Option.some.inj h; refine j5 rfl ?_; simp only [go_sem, Le]

def qi3 (g_0 : GGraph) (xv_0 : GNode) : Option Int :=
 (if (xv_0.Kind == 10) = true then j6 (idx g_0.Parent xv_0.Scope) (fun (xv_1 : Int) =>
 some xv_1)
 else some xv_0.Scope)
theorem z0b (g_0 : GGraph) (xv_0 : GNode)  (r : Int) (h : qi3 g_0 xv_0 = some r) : PureS Tryz.prog 128 [.agg [.sl 1 (enc g_0.Parent), .sl 1 (enc g_0.Bound), .sl 4 (enc g_0.Nodes), .sl 4 (enc g_0.Edges)], .agg [.v (.int .i64 xv_0.Kind), .v (.int .i64 xv_0.Scope), .v (.int .i64 xv_0.Arg), .sl 2 (enc xv_0.Prog)]] 0 (.v (.int .i64 r)) := by
 unfold PureS; refine Spec.of_vc Tryz.func128 rfl (by kernel_rfl) (by kernel_rfl) ?_; rw [qi3] at h; refine sg fun _ Q1 => ?_; simp only [go_sem]; refine q8 Q1 (sg fun _ Q2 => ?_); refine sg fun _ Q3 => ?_; simp only [go_sem]; refine q8 Q3 ?_; refine j3 (b := (xv_0.Kind == 10)) (by (simp only [go_sem]; done)) (fun hb_0 => ?_) (fun hb_0 => ?_)
 · replace h := x9 h hb_0; simp only [bool_to_prop] at hb_0; refine sg fun _ Q4 => ?_; obtain ⟨xv_1, ex1, h⟩ := q9 h; obtain ⟨f1a, f1b, f1c⟩ := u7 ex1; simp only [go_sem, f1a, f1b, f1c]; refine And.intro (by omega) ?_; refine q8 Q4 (z8 (y5 Q2 ?_)); simp only [go_sem]; obtain rfl := Option.some.inj h; refine j5 rfl ?_; simp only [go_sem, Le]
 · replace h := u6 h hb_0; simp only [bool_to_prop] at hb_0; refine j4 (q8 Q2 (sg fun _ Q5 => ?_)); simp only [go_sem]; refine q8 Q5 (z8 ?_); simp only [go_sem]; obtain rfl := Option.some.inj h; refine j5 rfl ?_; simp only [go_sem, Le]

def q2s (g_0 : GGraph) (nv_0 : Int) (gives_0 : Bool) : Option Int :=
 j6 (idx g_0.Nodes nv_0) (fun (xv_0 : GNode) =>
 (if (((xv_0.Kind == 10) && (!gives_0)) || ((xv_0.Kind == 11) && gives_0)) = true then j6 (idx g_0.Parent xv_0.Scope) (fun (xv_1 : Int) =>
 some xv_1)
 else some xv_0.Scope))
theorem q8r (g_0 : GGraph) (nv_0 : Int) (gives_0 : Bool)  (r : Int) (h : q2s g_0 nv_0 gives_0 = some r) : PureS Tryz.prog 134 [.agg [.sl 1 (enc g_0.Parent), .sl 1 (enc g_0.Bound), .sl 4 (enc g_0.Nodes), .sl 4 (enc g_0.Edges)], .v (.int .i64 nv_0), .v (.bool gives_0)] 0 (.v (.int .i64 r)) := by
 unfold PureS; refine Spec.of_vc Tryz.func134 rfl (by kernel_rfl) (by kernel_rfl) ?_; rw [q2s] at h; refine sg fun _ Q1 => ?_; simp only [go_sem]; refine q8 Q1 (sg fun _ Q2 => ?_); obtain ⟨xv_0, ex0, h⟩ := q9 h; obtain ⟨f0a, f0b, f0c⟩ := u7 ex0; simp only [go_sem, f0a, f0b, f0c]; refine And.intro (by omega) ?_; refine q8 Q2 (sg fun _ Q3 => ?_); refine sg fun _ Q4 => ?_; simp only [go_sem]; refine And.intro (by (intros; (repeat' apply And.intro) <;> first | assumption | omega)) ?_; refine q8 Q4 ?_; refine j3 (b := (((xv_0.Kind == 10) && (!gives_0)) || ((xv_0.Kind == 11) && gives_0))) (by (simp only [go_sem]; done)) (fun hb_0 => ?_) (fun hb_0 => ?_)
 · replace h := x9 h hb_0; simp only [bool_to_prop] at hb_0; refine sg fun _ Q5 => ?_; obtain ⟨xv_1, ex1, h⟩ := q9 h; obtain ⟨f1a, f1b, f1c⟩ := u7 ex1; simp only [go_sem, f1a, f1b, f1c]; refine And.intro (by omega) ?_; refine q8 Q5 (z8 (y5 Q3 ?_)); simp only [go_sem]; obtain rfl := Option.some.inj h; refine j5 rfl ?_; simp only [go_sem, Le]
 · replace h := u6 h hb_0; simp only [bool_to_prop] at hb_0; refine j4 (q8 Q3 (sg fun _ Q6 => ?_)); simp only [go_sem]; refine q8 Q6 (z8 ?_); simp only [go_sem]; obtain rfl := Option.some.inj h; refine j5 rfl ?_; simp only [go_sem, Le]

def q1d (xv_0 : GNode) : Option Int :=
 (if (xv_0.Kind == 2) = true then j6 (q48 xv_0.Prog) (fun (v_1 : Bool) =>
 (if ((!v_1) || ((!(xv_0.Kind == 2)) && (decide (0 < (List.length xv_0.Prog : Int))))) = true then some 13
 else some 0))
 else (if ((!(xv_0.Kind == 2)) && (decide (0 < (List.length xv_0.Prog : Int)))) = true then some 13
 else some 0))
def q4l (g_0 : GGraph) (nv_0 : Int) : Option Int :=
 j6 (idx g_0.Nodes nv_0) (fun (xv_0 : GNode) =>
 (if ((decide (xv_0.Kind < 1)) || (decide (15 < xv_0.Kind))) = true then some 1
 else (if ((decide (xv_0.Scope < 0)) || (decide ((List.length g_0.Parent : Int) ≤ xv_0.Scope))) = true then some 6
 else (if ((((xv_0.Scope == 0) && (decide (10 ≤ xv_0.Kind))) && (decide (xv_0.Kind ≤ 12))) || ((decide (0 < xv_0.Scope)) && ((xv_0.Kind == 1) || (xv_0.Kind == 15)))) = true then some 6
 else j6 (q3j g_0 nv_0) (fun (v_0 : Bool) =>
 (if (!v_0) = true then some 6
 else (if (xv_0.Kind == 4) = true then (if (decide (xv_0.Arg < 1)) = true then some 1
 else q1d xv_0)
 else (if (xv_0.Kind == 3) = true then q1d xv_0
 else (if (!(xv_0.Arg == 0)) = true then some 1
 else q1d xv_0)))))))))
theorem qn9 (g_0 : GGraph) (nv_0 : Int)  (r : Int) (h : q4l g_0 nv_0 = some r) : PureS Tryz.prog 69 [.agg [.sl 1 (enc g_0.Parent), .sl 1 (enc g_0.Bound), .sl 4 (enc g_0.Nodes), .sl 4 (enc g_0.Edges)], .v (.int .i64 nv_0)] 0 (.v (.int .i64 r)) := by
 unfold PureS; refine Spec.of_vc Tryz.func69 rfl (by kernel_rfl) (by kernel_rfl) ?_; rw [q4l] at h; refine sg fun _ Q1 => ?_; simp only [go_sem]; refine q8 Q1 (sg fun _ Q2 => ?_); obtain ⟨xv_0, ex0, h⟩ := q9 h; obtain ⟨f0a, f0b, f0c⟩ := u7 ex0; simp only [go_sem, f0a, f0b, f0c]; refine And.intro (by omega) ?_; refine q8 Q2 (sg fun _ Q3 => ?_); refine sg fun _ Q4 => ?_; simp only [go_sem]; refine q8 Q4 ?_; refine j3 (b := ((decide (xv_0.Kind < 1)) || (decide (15 < xv_0.Kind)))) (by (simp only [go_sem]; done)) (fun hb_0 => ?_) (fun hb_0 => ?_)
 · replace h := x9 h hb_0; simp only [bool_to_prop] at hb_0; refine sg fun _ Q5 => ?_; simp only [go_sem]; refine q8 Q5 (z8 (y5 Q3 ?_)); simp only [go_sem]; obtain rfl := Option.some.inj h; refine j5 rfl ?_; simp only [go_sem, Le]
 ·
  replace h := u6 h hb_0; simp only [bool_to_prop] at hb_0; refine j4 (q8 Q3 (sg fun _ Q6 => ?_)); refine sg fun _ Q7 => ?_; simp only [go_sem]; refine q8 Q7 ?_; refine j3 (b := ((decide (xv_0.Scope < 0)) || (decide ((List.length g_0.Parent : Int) ≤ xv_0.Scope)))) (by (simp only [go_sem]; done)) (fun hb_1 => ?_) (fun hb_1 => ?_)
  · replace h := x9 h hb_1; simp only [bool_to_prop] at hb_1; refine sg fun _ Q8 => ?_; simp only [go_sem]; refine q8 Q8 (z8 (y5 Q6 ?_)); simp only [go_sem]; obtain rfl := Option.some.inj h; refine j5 rfl ?_; simp only [go_sem, Le]
  ·
   replace h := u6 h hb_1; simp only [bool_to_prop] at hb_1; refine j4 (q8 Q6 (sg fun _ Q9 => ?_)); refine sg fun _ Q10 => ?_; simp only [go_sem]; refine And.intro (by (simp +contextual only [and_self, implies_true, true_and, and_true, imp_self]; done)) ?_; refine And.intro (by (simp +contextual only [and_self, implies_true, true_and, and_true, imp_self]; done)) ?_; refine q8 Q10 ?_; refine j3 (b := ((((xv_0.Scope == 0) && (decide (10 ≤ xv_0.Kind))) && (decide (xv_0.Kind ≤ 12))) || ((decide (0 < xv_0.Scope)) && ((xv_0.Kind == 1) || (xv_0.Kind == 15))))) (by (simp only [go_sem]; done)) (fun hb_2 => ?_) (fun hb_2 => ?_)
   · replace h := x9 h hb_2; simp only [bool_to_prop] at hb_2; refine sg fun _ Q11 => ?_; simp only [go_sem]; refine q8 Q11 (z8 (y5 Q9 ?_)); simp only [go_sem]; obtain rfl := Option.some.inj h; refine j5 rfl ?_; simp only [go_sem, Le]
   ·
    replace h := u6 h hb_2; simp only [bool_to_prop] at hb_2; refine j4 (q8 Q9 (sg fun _ Q12 => ?_)); refine sg fun _ Q13 => ?_; obtain ⟨v_0, ev_0, h⟩ := q9 h; simp only [go_sem]; refine q0f (qi8 g_0 nv_0 v_0 ev_0) (by rfl) (by rfl) ?_; simp only [go_sem]; refine q8 Q13 ?_; refine j3 (b := (!v_0)) (by (simp only [go_sem]; done)) (fun hb_3 => ?_) (fun hb_3 => ?_)
    · replace h := x9 h hb_3; simp only [bool_to_prop] at hb_3; refine sg fun _ Q14 => ?_; simp only [go_sem]; refine q8 Q14 (z8 (y5 Q12 ?_)); simp only [go_sem]; obtain rfl := Option.some.inj h; refine j5 rfl ?_; simp only [go_sem, Le]
    ·
     replace h := u6 h hb_3; simp only [bool_to_prop] at hb_3; refine j4 (q8 Q12 (q0a (by kernel_rfl) ?_)); refine q0x (ι := Unit) (fun (_ : Unit) => (⟨0, [(5, .ptr 0 0)], [(0, .box [.v (.int .i64 xv_0.Kind), .v (.int .i64 xv_0.Scope), .v (.int .i64 xv_0.Arg), .sl 2 (enc xv_0.Prog)])], 1, 94⟩ : St)) (fun (_ : Unit) => q1d xv_0 = some r) ?_ ?_
     ·
      intro _ Q21; refine sg fun _ Q22 => ?_; simp only [go_sem]; refine q8 Q22 (y7 ?_); intro _ Q23; refine sg fun _ Q24 => ?_; simp only [go_sem]; refine q8 Q24 ?_; refine j3 (b := (xv_0.Kind == 4)) (by (simp only [go_sem]; done)) (fun hb_11 => ?_) (fun hb_11 => ?_)
      ·
       replace h := x9 h hb_11; simp only [bool_to_prop] at hb_11; refine sg fun _ Q25 => ?_; simp only [go_sem]; refine q8 Q25 ?_; refine j3 (b := (decide (xv_0.Arg < 1))) (by (simp only [go_sem]; done)) (fun hb_12 => ?_) (fun hb_12 => ?_)
       · replace h := x9 h hb_12; simp only [bool_to_prop] at hb_12; refine sg fun _ Q26 => ?_; simp only [go_sem]; refine q8 Q26 (z8 (y9 Q23 (q04 Q21 ?_))); simp only [go_sem]; obtain rfl := Option.some.inj h; refine j5 rfl ?_; simp only [go_sem, Le]
       · replace h := u6 h hb_12; simp only [bool_to_prop] at hb_12; refine j4 (y8 Q23 (w9 Q21 (⟨(), [some 1], ?_, h⟩))); simp only [go_sem, Le]
      ·
       replace h := u6 h hb_11; simp only [bool_to_prop] at hb_11; refine sg fun _ Q27 => ?_; simp only [go_sem]; refine q8 Q27 ?_; refine j3 (b := (xv_0.Kind == 3)) (by (simp only [go_sem]; done)) (fun hb_13 => ?_) (fun hb_13 => ?_)
       · replace h := x9 h hb_13; simp only [bool_to_prop] at hb_13; refine j4 (y8 Q23 (w9 Q21 (⟨(), [some 1], ?_, h⟩))); simp only [go_sem, Le]
       ·
        replace h := u6 h hb_13; simp only [bool_to_prop] at hb_13; refine sg fun _ Q28 => ?_; simp only [go_sem]; refine q8 Q28 ?_; refine j3 (b := (!(xv_0.Arg == 0))) (by (simp only [go_sem]; done)) (fun hb_14 => ?_) (fun hb_14 => ?_)
        · replace h := x9 h hb_14; simp only [bool_to_prop] at hb_14; refine sg fun _ Q29 => ?_; simp only [go_sem]; refine q8 Q29 (z8 (y9 Q23 (q04 Q21 ?_))); simp only [go_sem]; obtain rfl := Option.some.inj h; refine j5 rfl ?_; simp only [go_sem, Le]
        · replace h := u6 h hb_14; simp only [bool_to_prop] at hb_14; refine j4 (y8 Q23 (w9 Q21 (⟨(), [some 1], ?_, h⟩))); simp only [go_sem, Le]
     ·
      rintro ⟨⟩ h
      try dsimp only at h
      rw [q1d] at h; refine sg fun _ Q15 => ?_; refine sg fun _ Q16 => ?_; simp only [go_sem]; rcases hb_8 : (xv_0.Kind == 2) with _ | _
      ·
       replace h := u6 h hb_8; simp only [go_sem, hb_8]; refine q8 Q16 ?_; refine j3 (b := ((!(xv_0.Kind == 2)) && (decide (0 < (List.length xv_0.Prog : Int))))) (by (simp only [go_sem]; congr 2; (first | grind | (simp_all; done)))) (fun hb_9 => ?_) (fun hb_9 => ?_)
       · replace h := x9 h hb_9; simp only [bool_to_prop] at hb_9; refine sg fun _ Q17 => ?_; simp only [go_sem]; refine q8 Q17 (z8 (y5 Q15 ?_)); simp only [go_sem]; obtain rfl := Option.some.inj h; refine j5 rfl ?_; simp only [go_sem, Le]
       · replace h := u6 h hb_9; simp only [bool_to_prop] at hb_9; refine j4 (q8 Q15 (sg fun _ Q18 => ?_)); simp only [go_sem]; refine q8 Q18 (z8 ?_); simp only [go_sem]; obtain rfl := Option.some.inj h; refine j5 rfl ?_; simp only [go_sem, Le]
      ·
       replace h := x9 h hb_8; obtain ⟨v_1, ev_1, h⟩ := q9 h; simp only [go_sem, hb_8]; refine q0f (qn0 xv_0.Prog v_1 ev_1) (by rfl) (by rfl) ?_; simp only [go_sem]; refine And.intro (by (simp +contextual only [and_self, implies_true, true_and, and_true, imp_self]; done)) ?_; refine q8 Q16 ?_; refine j3 (b := ((!v_1) || ((!(xv_0.Kind == 2)) && (decide (0 < (List.length xv_0.Prog : Int)))))) (by (simp only [go_sem]; done)) (fun hb_10 => ?_) (fun hb_10 => ?_)
       · replace h := x9 h hb_10; simp only [bool_to_prop] at hb_10; refine sg fun _ Q19 => ?_; simp only [go_sem]; refine q8 Q19 (z8 (y5 Q15 ?_)); simp only [go_sem]; obtain rfl := Option.some.inj h; refine j5 rfl ?_; simp only [go_sem, Le]
       · replace h := u6 h hb_10; simp only [bool_to_prop] at hb_10; refine j4 (q8 Q15 (sg fun _ Q20 => ?_)); simp only [go_sem]; refine q8 Q20 (z8 ?_); simp only [go_sem]; obtain rfl := Option.some.inj h; refine j5 rfl ?_; simp only [go_sem, Le]

def q2r (kind_0 : Int) : Option Int :=
 (if ((decide (kind_0 < 1)) || (decide (15 < kind_0))) = true then some 0
 else j6 (idx ([0, 0, 1, 1, 1, 2, 1, 1, 1, 2, 1, 1, 1, 1, 1, 1] : List Int) kind_0) (fun (xv_0 : Int) =>
 some xv_0))
theorem q8q (kind_0 : Int)  (r : Int) (h : q2r kind_0 = some r) : PureS Tryz.prog 71 [.v (.int .i64 kind_0)] 0 (.v (.int .i64 r)) := by
 unfold PureS; refine Spec.of_vc Tryz.func71 rfl (by kernel_rfl) (by kernel_rfl) ?_; rw [q2r] at h; refine sg fun _ Q1 => ?_; simp only [go_sem]; refine q8 Q1 (sg fun _ Q2 => ?_); refine sg fun _ Q3 => ?_; simp only [go_sem]; refine q8 Q3 ?_; refine j3 (b := ((decide (kind_0 < 1)) || (decide (15 < kind_0)))) (by (simp only [go_sem]; done)) (fun hb_0 => ?_) (fun hb_0 => ?_)
 · replace h := x9 h hb_0; simp only [bool_to_prop] at hb_0; refine sg fun _ Q4 => ?_; simp only [go_sem]; refine q8 Q4 (z8 (y5 Q2 ?_)); simp only [go_sem]; obtain rfl := Option.some.inj h; refine j5 rfl ?_; simp only [go_sem, Le]
 · replace h := u6 h hb_0; simp only [bool_to_prop] at hb_0; refine j4 (q8 Q2 (sg fun _ Q5 => ?_)); obtain ⟨xv_0, ex0, h⟩ := q9 h; obtain ⟨f0a, f0b, f0c, fxv_0d⟩ := z4x (f := (fun y => AV.v (.int .i64 y))) ex0; simp only [List.cons_append, List.nil_append, List.append_nil, List.map_cons, List.map_nil, List.length_cons, List.length_nil, Nat.zero_add, Nat.reduceAdd] at f0b f0c fxv_0d; simp only [go_sem, f0a, f0b, f0c, fxv_0d]; refine And.intro (by omega) ?_; refine And.intro (by omega) ?_; simp only [List.getD_eq_getElem?_getD, Nat.mul_one, fxv_0d, Option.map_some, Option.getD_some, true_and]; refine q8 Q5 (z8 ?_); simp only [go_sem]; obtain rfl := Option.some.inj h; refine j5 rfl ?_; simp only [go_sem, Le]

def q2b (g_0 : GGraph) (nv_0 : Int) (xv_0 : GEdge) (rec_1 : Int → Option Int) : Int → Option Int :=
 fun i_1 =>
 (if (decide (i_1 < nv_0)) = true then j6 (idx g_0.Edges i_1) (fun (xv_5 : GEdge) =>
 (if (xv_5.To == xv_0.To) = true then (if (xv_5.Port == xv_0.Port) = true then some 7
 else rec_1 (i64.wrap (i_1 + 1)))
 else rec_1 (i64.wrap (i_1 + 1))))
 else some 0)
def q4m (g_0 : GGraph) (nv_0 : Int) : Option Int :=
 j6 (idx g_0.Edges nv_0) (fun (xv_0 : GEdge) =>
 (if ((((decide (xv_0.From < 0)) || (decide ((List.length g_0.Nodes : Int) ≤ xv_0.From))) || (decide (xv_0.To < 0))) || (decide ((List.length g_0.Nodes : Int) ≤ xv_0.To))) = true then some 7
 else j6 (idx g_0.Nodes xv_0.From) (fun (xv_1 : GNode) =>
 (if ((xv_1.Kind == 15) || (decide (xv_0.Port < 0))) = true then some 7
 else j6 (idx g_0.Nodes xv_0.To) (fun (xv_2 : GNode) =>
 j6 (q2r xv_2.Kind) (fun (v_0 : Int) =>
 (if (decide (v_0 ≤ xv_0.Port)) = true then some 7
 else j6 (q2s g_0 xv_0.From true) (fun (v_1 : Int) =>
 j6 (q2s g_0 xv_0.To false) (fun (v_2 : Int) =>
 (if (!(v_1 == v_2)) = true then some 6
 else (if ((!(xv_1.Kind == 12)) && (decide (xv_0.To ≤ xv_0.From))) = true then some 8
 else (if ((!xv_0.Exchange) && (((((xv_2.Kind == 6) || (xv_2.Kind == 7)) || (xv_2.Kind == 8)) || (xv_2.Kind == 9)) || (xv_2.Kind == 14))) = true then some 1
 else p9 (q2b g_0 nv_0 xv_0) rounds 0))))))))))))
theorem qo0 (g_0 : GGraph) (nv_0 : Int)  (r : Int) (h : q4m g_0 nv_0 = some r) : PureS Tryz.prog 70 [.agg [.sl 1 (enc g_0.Parent), .sl 1 (enc g_0.Bound), .sl 4 (enc g_0.Nodes), .sl 4 (enc g_0.Edges)], .v (.int .i64 nv_0)] 0 (.v (.int .i64 r)) := by
 unfold PureS; refine Spec.of_vc Tryz.func70 rfl (by kernel_rfl) (by kernel_rfl) ?_; rw [q4m] at h; refine sg fun _ Q1 => ?_; simp only [go_sem]; refine q8 Q1 (sg fun _ Q2 => ?_); obtain ⟨xv_0, ex0, h⟩ := q9 h; obtain ⟨f0a, f0b, f0c⟩ := u7 ex0; simp only [go_sem, f0a, f0b, f0c]; refine And.intro (by omega) ?_; refine q8 Q2 (sg fun _ Q3 => ?_); simp only [go_sem]; refine q8 Q3 (sg fun _ Q4 => ?_); refine sg fun _ Q5 => ?_; refine q0q ?_; refine q0l 46 [0, 1, 3, 7, 15, 31, 15, 127, 255, 511, 1023, 2047, 4095, 8191, 16383, 32767, 65535, 32767, 262143, 524287, 1048575, 2097151, 4194303, 2097151, 10485759, 33554431, 67108863, 134217727, 268435455, 536870911, 1073741823, 2147483647, 4294967295, 8589934591, 17179869183, 34359738367, 68719476735, 137438953471, 68719476735, 343597383679, 68719476735, 1168231104511, 4191888080895, 8589934591999, 17386027614207, 34978213658623, 70368744177663, 140737488355327] mixed (by kernel_rfl) (of_decide_eq_true (by kernel_rfl)) (by kernel_rfl) ?_; simp only [go_sem]; rcases hb_0 : ((((decide (xv_0.From < 0)) || (decide ((List.length g_0.Nodes : Int) ≤ xv_0.From))) || (decide (xv_0.To < 0))) || (decide ((List.length g_0.Nodes : Int) ≤ xv_0.To))) with _ | _
 ·
  replace h := u6 h hb_0; obtain ⟨xv_1, ex1, h⟩ := q9 h; obtain ⟨f1a, f1b, f1c⟩ := u7 ex1; simp only [go_sem, hb_0, f1a, f1b, f1c]; refine And.intro (by omega) ?_; rcases hb_1 : ((xv_1.Kind == 15) || (decide (xv_0.Port < 0))) with _ | _
  ·
   replace h := u6 h hb_1; obtain ⟨xv_2, ex2, h⟩ := q9 h; obtain ⟨f2a, f2b, f2c⟩ := u7 ex2; obtain ⟨v_0, ev_0, h⟩ := q9 h; simp only [go_sem, hb_1, f2a, f2b, f2c]; refine And.intro (by omega) ?_; refine callq (fun _ => (q8q xv_2.Kind v_0 ev_0)) (by rfl) (by rfl) ?_; simp only [go_sem]; refine q8 Q5 ?_; refine j3 (b := (decide (v_0 ≤ xv_0.Port))) (by (simp only [go_sem]; done)) (fun hb_2 => ?_) (fun hb_2 => ?_)
   · replace h := x9 h hb_2; simp only [bool_to_prop] at hb_2; refine sg fun _ Q6 => ?_; simp only [go_sem]; refine q8 Q6 (z8 (y5 Q4 ?_)); simp only [go_sem]; obtain rfl := Option.some.inj h; refine j5 rfl ?_; simp only [go_sem, Le]
   ·
    replace h := u6 h hb_2; simp only [bool_to_prop] at hb_2; refine j4 (q8 Q4 (sg fun _ Q7 => ?_)); refine sg fun _ Q8 => ?_; refine q0q ?_; refine q0l 7 [0, 0, 2, 7, 0, 0, 32, 127, 255] mixed (by kernel_rfl) (of_decide_eq_true (by kernel_rfl)) (by kernel_rfl) ?_; obtain ⟨v_1, ev_1, h⟩ := q9 h; simp only [go_sem]; refine callq (fun _ => (q8r g_0 xv_0.From true v_1 ev_1)) (by rfl) (by rfl) ?_; obtain ⟨v_2, ev_2, h⟩ := q9 h; simp only [go_sem]; refine q0f (q8r g_0 xv_0.To false v_2 ev_2) (by rfl) (by rfl) ?_; simp only [go_sem]; refine q8 Q8 ?_; refine j3 (b := (!(v_1 == v_2))) (by (simp only [go_sem]; done)) (fun hb_3 => ?_) (fun hb_3 => ?_)
    · replace h := x9 h hb_3; simp only [bool_to_prop] at hb_3; refine sg fun _ Q9 => ?_; simp only [go_sem]; refine q8 Q9 (z8 (y5 Q7 ?_)); simp only [go_sem]; obtain rfl := Option.some.inj h; refine j5 rfl ?_; simp only [go_sem, Le]
    ·
     replace h := u6 h hb_3; simp only [bool_to_prop] at hb_3; refine j4 (q8 Q7 (sg fun _ Q10 => ?_)); refine sg fun _ Q11 => ?_; simp only [go_sem, f1a, f1b, f1c]; refine And.intro (by omega) ?_; refine q8 Q11 ?_; refine j3 (b := ((!(xv_1.Kind == 12)) && (decide (xv_0.To ≤ xv_0.From)))) (by (simp only [go_sem]; done)) (fun hb_4 => ?_) (fun hb_4 => ?_)
     · replace h := x9 h hb_4; simp only [bool_to_prop] at hb_4; refine sg fun _ Q12 => ?_; simp only [go_sem]; refine q8 Q12 (z8 (y5 Q10 ?_)); simp only [go_sem]; obtain rfl := Option.some.inj h; refine j5 rfl ?_; simp only [go_sem, Le]
     ·
      replace h := u6 h hb_4; simp only [bool_to_prop] at hb_4; refine j4 (q8 Q10 (sg fun _ Q13 => ?_)); simp only [go_sem, f2a, f2b, f2c]; refine And.intro (by omega) ?_; refine q8 Q13 (sg fun _ Q14 => ?_); refine sg fun _ Q15 => ?_; simp only [go_sem]; refine And.intro (by (simp +contextual only [and_self, implies_true, true_and, and_true, imp_self]; done)) ?_; refine And.intro (by (simp +contextual only [and_self, implies_true, true_and, and_true, imp_self]; done)) ?_; refine And.intro (by (simp +contextual only [and_self, implies_true, true_and, and_true, imp_self]; done)) ?_; refine And.intro (by (simp +contextual only [and_self, implies_true, true_and, and_true, imp_self]; done)) ?_; refine q8 Q15 ?_; refine j3 (b := ((!xv_0.Exchange) && (((((xv_2.Kind == 6) || (xv_2.Kind == 7)) || (xv_2.Kind == 8)) || (xv_2.Kind == 9)) || (xv_2.Kind == 14)))) (by (simp only [go_sem]; done)) (fun hb_5 => ?_) (fun hb_5 => ?_)
      · replace h := x9 h hb_5; simp only [bool_to_prop] at hb_5; refine sg fun _ Q16 => ?_; simp only [go_sem]; refine q8 Q16 (z8 (y5 Q14 ?_)); simp only [go_sem]; obtain rfl := Option.some.inj h; refine j5 rfl ?_; simp only [go_sem, Le]
      ·
       replace h := u6 h hb_5; simp only [bool_to_prop] at hb_5; refine j4 (q8 Q14 (q0a (by kernel_rfl) ?_)); refine q0c ?_; intro _ Q17; refine sg fun _ Q18 => ?_; simp only [go_sem]; refine q8 Q18 (y7 ?_); intro _ Q19; refine q06 ?_; refine q0g (ι := Nat × Int) (fun ((_, i_1) : Nat × Int) => (⟨0, [(1, .v (.int .i64 nv_0)), (2, .ptr 0 0), (5, .ptr 1 0), (8, .v (.int .i64 i_1))], [(0, .box [.sl 1 (enc g_0.Parent), .sl 1 (enc g_0.Bound), .sl 4 (enc g_0.Nodes), .sl 4 (enc g_0.Edges)]), (1, .box [.v (.int .i64 xv_0.From), .v (.int .i64 xv_0.To), .v (.int .i64 xv_0.Port), .v (.bool xv_0.Exchange)])], 2, 144⟩ : St)) (fun ((n_, i_1) : Nat × Int) => p9 (q2b g_0 nv_0 xv_0) n_ i_1 = some r) (fun p => p.1) (rounds, 0) [some 0, some 1] ?_ h ?_
       · simp only [go_sem, Le] <;> (repeat' apply And.intro) <;> (try with_reducible refine x8 ?_) <;> first | omega | (simp [go_sem]; done)
       ·
        rintro ⟨n_1, i_1⟩ h _ Q20; dsimp only at h; replace h := q08 h; obtain ⟨m_1, rfl, h⟩ := h; rw [q2b] at h; refine sg fun _ Q21 => ?_; refine sg fun _ Q22 => ?_; simp only [go_sem]; refine q8 Q22 ?_; refine j3 (b := (decide (i_1 < nv_0))) (by (simp only [go_sem]; done)) (fun hb_12 => ?_) (fun hb_12 => ?_)
        ·
         replace h := x9 h hb_12; simp only [bool_to_prop] at hb_12; refine j4 (q8 Q21 (sg fun _ Q23 => ?_)); refine y7 ?_; intro _ Q24; refine sg fun _ Q25 => ?_; refine q0q ?_; refine q0l 18 [0, 1, 0, 7, 15, 31, 0, 64, 255, 511, 1023, 2047, 1023, 8191, 16383, 32767, 1023, 66559, 262143, 524287] mixed (by kernel_rfl) (of_decide_eq_true (by kernel_rfl)) (by kernel_rfl) ?_; obtain ⟨xv_5, ex5, h⟩ := q9 h; obtain ⟨f5a, f5b, f5c⟩ := u7 ex5; simp only [go_sem, f5a, f5b, f5c]; refine And.intro (by omega) ?_; rcases hb_13 : (xv_5.To == xv_0.To) with _ | _
         · replace h := u6 h hb_13; simp only [go_sem, hb_13]; refine q8 Q25 ?_; refine q55 (by (simp only [go_sem]; done)) ?_; refine j4 (y8 Q24 (q8 Q23 ?_)); simp only [go_sem]; refine w9 Q20 (⟨(m_1, i64.wrap (i_1 + 1)), [some 0, some 1], ?_, h, Nat.lt_succ_self _⟩); simp only [go_sem, Le] <;> (repeat' apply And.intro) <;> (try with_reducible refine x8 ?_) <;> first | omega | (simp [go_sem]; done)
         ·
          replace h := x9 h hb_13; simp only [go_sem, hb_13, f5a, f5b, f5c]; refine And.intro (by omega) ?_; refine q8 Q25 ?_; refine j3 (b := (xv_5.Port == xv_0.Port)) (by (simp only [go_sem]; done)) (fun hb_14 => ?_) (fun hb_14 => ?_)
          · replace h := x9 h hb_14; simp only [bool_to_prop] at hb_14; refine sg fun _ Q26 => ?_; simp only [go_sem]; refine q8 Q26 (z8 (y9 Q24 (y5 Q23 (q04 Q20 (y9 Q19 (y5 Q17 ?_)))))); simp only [go_sem]; obtain rfl := Option.some.inj h; refine j5 rfl ?_; simp only [go_sem, Le]
          · replace h := u6 h hb_14; simp only [bool_to_prop] at hb_14; refine j4 (y8 Q24 (q8 Q23 ?_)); simp only [go_sem]; refine w9 Q20 (⟨(m_1, i64.wrap (i_1 + 1)), [some 0, some 1], ?_, h, Nat.lt_succ_self _⟩); simp only [go_sem, Le] <;> (repeat' apply And.intro) <;> (try with_reducible refine x8 ?_) <;> first | omega | (simp [go_sem]; done)
        · replace h := u6 h hb_12; simp only [bool_to_prop] at hb_12; refine q03 (q09 Q21 (q07 Q20 (d9 Q19 (q8 Q17 (sg fun _ Q27 => ?_))))); simp only [go_sem]; refine q8 Q27 (z8 ?_); simp only [go_sem]; obtain rfl := Option.some.inj h; refine j5 rfl ?_; simp only [go_sem, Le]
  · replace h := x9 h hb_1; simp only [go_sem, hb_1]; refine q8 Q5 ?_; refine q0o (by (simp only [go_sem]; done)) ?_; refine sg fun _ Q28 => ?_; simp only [go_sem]; refine q8 Q28 (z8 (y5 Q4 ?_)); simp only [go_sem]; obtain rfl := Option.some.inj h; refine j5 rfl ?_; simp only [go_sem, Le]
 · replace h := x9 h hb_0; simp only [go_sem, hb_0]; refine q8 Q5 ?_; refine q0o (by (simp only [go_sem]; done)) ?_; refine sg fun _ Q29 => ?_; simp only [go_sem]; refine q8 Q29 (z8 (y5 Q4 ?_)); simp only [go_sem]; obtain rfl := Option.some.inj h; refine j5 rfl ?_; simp only [go_sem, Le]

def q2n (s_0 : Int) (v_0 : List Int) (rec_1 : Int → Option Bool) : Int → Option Bool :=
 fun i_1 =>
 (if (decide ((i64.wrap (i_1 + 1)) < (List.length v_0 : Int))) = true then j6 (idx v_0 i_1) (fun (xv_2 : Int) =>
 (if (xv_2 == s_0) = true then some true
 else rec_1 (i64.wrap (i_1 + 1))))
 else some false)
def q3x (g_0 : GGraph) (s_0 : Int) (of_0 : Int) : Option Bool :=
 j6 (q26 g_0 of_0) (fun (v_0 : List Int) =>
 p9 (q2n s_0 v_0) rounds 0)
theorem qk1 (g_0 : GGraph) (s_0 : Int) (of_0 : Int)  (r : Bool) (h : q3x g_0 s_0 of_0 = some r) : PureS Tryz.prog 135 [.agg [.sl 1 (enc g_0.Parent), .sl 1 (enc g_0.Bound), .sl 4 (enc g_0.Nodes), .sl 4 (enc g_0.Edges)], .v (.int .i64 s_0), .v (.int .i64 of_0)] 0 (.v (.bool r)) := by
 unfold PureS; refine Spec.of_vc Tryz.func135 rfl (by kernel_rfl) (by kernel_rfl) ?_; rw [q3x] at h; refine sg fun _ Q1 => ?_; simp only [go_sem]; refine q8 Q1 (sg fun _ Q2 => ?_); obtain ⟨v_0, ev_0, h⟩ := q9 h; simp only [go_sem]; refine q19 [] (q4a g_0 of_0 v_0 ev_0) (by simp) rfl trivial rfl rfl rfl rfl ?_; simp only [go_sem]; refine q8 Q2 (q0a (by kernel_rfl) ?_); refine q0c ?_; intro _ Q3; refine sg fun _ Q4 => ?_; simp only [go_sem]; refine q8 Q4 (y7 ?_); intro _ Q5; refine q06 ?_; refine q0g (ι := Nat × Int) (fun ((_, i_1) : Nat × Int) => (⟨0, [(1, .v (.int .i64 s_0)), (7, .osl 0 1 (0) (List.length v_0)), (8, .v (.int .i64 i_1))], [(0, .arr 1 (enc v_0))], 1, 25⟩ : St)) (fun ((n_, i_1) : Nat × Int) => p9 (q2n s_0 v_0) n_ i_1 = some r) (fun p => p.1) (rounds, 0) [some 1] ?_ h ?_
 · simp only [go_sem, Le]
 ·
  rintro ⟨n_1, i_1⟩ h _ Q6; dsimp only at h; replace h := q08 h; obtain ⟨m_1, rfl, h⟩ := h; rw [q2n] at h; refine sg fun _ Q7 => ?_; refine sg fun _ Q8 => ?_; simp only [go_sem]; refine q8 Q8 ?_; refine j3 (b := (decide ((i64.wrap (i_1 + 1)) < (List.length v_0 : Int)))) (by (simp only [go_sem]; done)) (fun hb_4 => ?_) (fun hb_4 => ?_)
  ·
   replace h := x9 h hb_4; simp only [bool_to_prop] at hb_4; refine j4 (q8 Q7 (sg fun _ Q9 => ?_)); refine y7 ?_; intro _ Q10; refine sg fun _ Q11 => ?_; obtain ⟨xv_2, ex2, h⟩ := q9 h; obtain ⟨f2a, f2b, f2c⟩ := u7 ex2; simp only [go_sem, f2a, f2b, f2c]; refine And.intro (by omega) ?_; refine q8 Q11 ?_; refine j3 (b := (xv_2 == s_0)) (by (simp only [go_sem]; done)) (fun hb_5 => ?_) (fun hb_5 => ?_)
   · replace h := x9 h hb_5; simp only [bool_to_prop] at hb_5; refine sg fun _ Q12 => ?_; simp only [go_sem]; refine q8 Q12 (z8 (y9 Q10 (y5 Q9 (q04 Q6 (y9 Q5 (y5 Q3 ?_)))))); simp only [go_sem]; obtain rfl := Option.some.inj h; refine j5 rfl ?_; simp only [go_sem, Le]
   · replace h := u6 h hb_5; simp only [bool_to_prop] at hb_5; refine j4 (y8 Q10 (q8 Q9 ?_)); simp only [go_sem]; refine w9 Q6 (⟨(m_1, i64.wrap (i_1 + 1)), [some 0], ?_, h, Nat.lt_succ_self _⟩); simp only [go_sem, Le]
  · replace h := u6 h hb_4; simp only [bool_to_prop] at hb_4; refine q03 (q09 Q7 (q07 Q6 (d9 Q5 (q8 Q3 (sg fun _ Q13 => ?_))))); simp only [go_sem]; refine q8 Q13 (z8 ?_); simp only [go_sem]; obtain rfl := Option.some.inj h; refine j5 rfl ?_; simp only [go_sem, Le]

def q39 (g_0 : GGraph) (s_0 : Int) (round_1 : Int) (rec_1 : (Int × (List Bool) → Option (List Bool))) (rec_2 : Int × (List Bool) → Option (List Bool)) : Int × (List Bool) → Option (List Bool) :=
 fun (i_5, a_7) =>
 (if (decide (i_5 < (List.length g_0.Edges : Int))) = true then j6 (idx g_0.Edges i_5) (fun (xv_48 : GEdge) =>
 j6 (idx g_0.Nodes xv_48.From) (fun (xv_49 : GNode) =>
 (if ((xv_49.Kind == 11) && (xv_49.Scope == s_0)) = true then j6 (idx a_7 xv_48.To) (fun (xv_53 : Bool) =>
 rec_2 (i64.wrap (i_5 + 1), (List.set a_7 (Int.toNat xv_48.To) true)))
 else j6 (idx a_7 xv_48.From) (fun (xv_50 : Bool) =>
 (if xv_50 = true then (if (xv_49.Kind == 12) = true then j6 (q3x g_0 xv_49.Scope s_0) (fun (v_8 : Bool) =>
 (if (!v_8) = true then j6 (idx a_7 xv_48.To) (fun (xv_52 : Bool) =>
 rec_2 (i64.wrap (i_5 + 1), (List.set a_7 (Int.toNat xv_48.To) true)))
 else rec_2 (i64.wrap (i_5 + 1), a_7)))
 else j6 (idx a_7 xv_48.To) (fun (xv_51 : Bool) =>
 rec_2 (i64.wrap (i_5 + 1), (List.set a_7 (Int.toNat xv_48.To) true))))
 else rec_2 (i64.wrap (i_5 + 1), a_7))))))
 else rec_1 (i64.wrap (round_1 + 1), a_7))
def q27 (g_0 : GGraph) (s_0 : Int) (rec_1 : Int × (List Bool) → Option (List Bool)) : Int × (List Bool) → Option (List Bool) :=
 fun (round_1, a_5) =>
 (if (decide (round_1 ≤ (List.length g_0.Nodes : Int))) = true then p9 (q39 g_0 s_0 round_1 rec_1) rounds (0, a_5)
 else some a_5)
def q2t (g_0 : GGraph) (s_0 : Int) : Option (List Bool) :=
 q0v (0 ≤ (List.length g_0.Nodes : Int) ∧ (List.length g_0.Nodes : Int) * 1 ≤ 140737488355328) (
 p9 (q27 g_0 s_0) rounds (0, (List.replicate (List.length g_0.Nodes) false)))
theorem qk2 (g_0 : GGraph) (s_0 : Int)  (r : List Bool) (h : q2t g_0 s_0 = some r) : DetS Tryz.prog 72 [.agg [.sl 1 (enc g_0.Parent), .sl 1 (enc g_0.Bound), .sl 4 (enc g_0.Nodes), .sl 4 (enc g_0.Edges)], .v (.int .i64 s_0)] [] 0 (.osl 0 1 (0) (List.length r)) [(0, .arr 1 (enc r))] 1 := by
 unfold DetS; refine Spec.of_vc Tryz.func72 rfl (by kernel_rfl) (by kernel_rfl) ?_; rw [q2t] at h; refine sg fun _ Q1 => ?_; simp only [go_sem]; refine q8 Q1 (sg fun _ Q2 => ?_); obtain ⟨g_1, h⟩ := q0k h; have rf_0 : List.replicate (List.length g_0.Nodes) [.v (.bool false)] = enc (List.replicate (List.length g_0.Nodes) false) := by (simp [enc, qe3, q9v, q8d, q5r]; done)
 simp only [go_sem, g_1]; simp only [rf_0]; refine q8 Q2 (q0a (by kernel_rfl) ?_); refine q0c ?_; intro _ Q3; refine sg fun _ Q4 => ?_; simp only [go_sem]; refine q8 Q4 (y7 ?_); intro _ Q5; refine q06 ?_; refine q0g (ι := Nat × Int × (List Bool)) (fun ((_, round_1, a_5) : Nat × Int × (List Bool)) => (⟨0, [(1, .v (.int .i64 s_0)), (2, .ptr 0 0), (5, .osl 1 1 (0) (List.length a_5)), (6, .v (.int .i64 round_1))], [(0, .box [.sl 1 (enc g_0.Parent), .sl 1 (enc g_0.Bound), .sl 4 (enc g_0.Nodes), .sl 4 (enc g_0.Edges)]), (1, .arr 1 (enc a_5))], 2, 73⟩ : St)) (fun ((n_, round_1, a_5) : Nat × Int × (List Bool)) => p9 (q27 g_0 s_0) n_ (round_1, a_5) = some r) (fun p => p.1) (rounds, 0, (List.replicate (List.length g_0.Nodes) false)) [some 0, some 1] ?_ h ?_
 · simp only [go_sem, Le] <;> (repeat' apply And.intro) <;> (try with_reducible refine x8 ?_) <;> first | omega | (simp [go_sem]; done)
 ·
  rintro ⟨n_1, round_1, a_5⟩ h _ Q6; dsimp only at h; replace h := q08 h; obtain ⟨m_1, rfl, h⟩ := h; rw [q27] at h; refine sg fun _ Q7 => ?_; refine sg fun _ Q8 => ?_; simp only [go_sem]; refine q8 Q8 ?_; refine j3 (b := (decide (round_1 ≤ (List.length g_0.Nodes : Int)))) (by (simp only [go_sem]; done)) (fun hb_32 => ?_) (fun hb_32 => ?_)
  ·
   replace h := x9 h hb_32; simp only [bool_to_prop] at hb_32; refine j4 (q8 Q7 (q0a (by kernel_rfl) ?_)); refine q0c ?_; intro _ Q9; refine y7 ?_; intro _ Q10; refine sg fun _ Q11 => ?_; simp only [go_sem]; refine q8 Q11 (y7 ?_); intro _ Q12; refine q06 ?_; refine q0g (ι := Nat × Int × (List Bool)) (fun ((_, i_5, a_7) : Nat × Int × (List Bool)) => (⟨0, [(1, .v (.int .i64 s_0)), (2, .ptr 0 0), (5, .osl 1 1 (0) (List.length a_7)), (6, .v (.int .i64 round_1)), (7, .v (.int .i64 i_5))], [(0, .box [.sl 1 (enc g_0.Parent), .sl 1 (enc g_0.Bound), .sl 4 (enc g_0.Nodes), .sl 4 (enc g_0.Edges)]), (1, .arr 1 (enc a_7))], 2, 73⟩ : St)) (fun ((n_, i_5, a_7) : Nat × Int × (List Bool)) => p9 (q39 g_0 s_0 round_1 (p9 (q27 g_0 s_0) m_1)) n_ (i_5, a_7) = some r) (fun p => p.1) (rounds, 0, a_5) [some 0, some 1] ?_ h ?_
   · simp only [go_sem, Le] <;> (repeat' apply And.intro) <;> (try with_reducible refine x8 ?_) <;> first | omega | (simp [go_sem]; done)
   ·
    rintro ⟨n_2, i_5, a_7⟩ h _ Q13; dsimp only at h; replace h := q08 h; obtain ⟨m_2, rfl, h⟩ := h; rw [q39] at h; refine sg fun _ Q14 => ?_; refine sg fun _ Q15 => ?_; simp only [go_sem]; refine q8 Q15 ?_; refine j3 (b := (decide (i_5 < (List.length g_0.Edges : Int)))) (by (simp only [go_sem]; done)) (fun hb_43 => ?_) (fun hb_43 => ?_)
    ·
     replace h := x9 h hb_43; simp only [bool_to_prop] at hb_43; refine j4 (q8 Q14 (q0a (by kernel_rfl) ?_)); refine q0c ?_; intro _ Q16; refine y7 ?_; intro _ Q17; refine sg fun _ Q18 => ?_; obtain ⟨xv_48, ex48, h⟩ := q9 h; obtain ⟨f48a, f48b, f48c⟩ := u7 ex48; simp only [go_sem, f48a, f48b, f48c]; refine And.intro (by omega) ?_; refine q8 Q18 (sg fun _ Q19 => ?_); obtain ⟨xv_49, ex49, h⟩ := q9 h; obtain ⟨f49a, f49b, f49c⟩ := u7 ex49; simp only [go_sem, f49a, f49b, f49c]; refine And.intro (by omega) ?_; refine q8 Q19 (sg fun _ Q20 => ?_); simp only [go_sem]; rcases hb_44 : ((xv_49.Kind == 11) && (xv_49.Scope == s_0)) with _ | _
     ·
      replace h := u6 h hb_44; obtain ⟨xv_50, ex50, h⟩ := q9 h; obtain ⟨f50a, f50b, f50c⟩ := u7 ex50; simp only [go_sem, hb_44, f50a, f50b, f50c]; refine And.intro (by omega) ?_; rcases hb_45 : xv_50 with _ | _
      · replace h := u6 h hb_45; simp only [go_sem, hb_45]; refine q8 Q20 ?_; refine q55 (by (simp only [go_sem]; done)) ?_; refine j4 (y8 Q17 (q8 Q16 ?_)); simp only [go_sem]; refine w9 Q13 (⟨(m_2, i64.wrap (i_5 + 1), a_7), [some 0, some 1], ?_, h, Nat.lt_succ_self _⟩); simp only [go_sem, Le] <;> (repeat' apply And.intro) <;> (try with_reducible refine x8 ?_) <;> first | omega | (simp [go_sem]; done)
      ·
       replace h := x9 h hb_45; simp only [go_sem, hb_45]; rcases hb_46 : (xv_49.Kind == 12) with _ | _
       ·
        replace h := u6 h hb_46; simp only [go_sem, hb_46]; refine q8 Q20 ?_; refine q0o (by (simp only [go_sem]; done)) ?_; obtain ⟨xv_51, ex51, h⟩ := q9 h; obtain ⟨f51a, f51b, f51c⟩ := u7 ex51; have rf_25 : (enc a_7).set (Int.toNat xv_48.To) [.v (.bool true)] = enc (List.set a_7 (Int.toNat xv_48.To) true) := by exact q3s _ _ _
        simp only [go_sem, f51a, f51b, f51c, rf_25]; refine And.intro (by omega) ?_; refine y8 Q17 (q8 Q16 ?_); simp only [go_sem]; refine w9 Q13 (⟨(m_2, i64.wrap (i_5 + 1), (List.set a_7 (Int.toNat xv_48.To) true)), [some 0, some 1], ?_, h, Nat.lt_succ_self _⟩); simp only [go_sem, Le] <;> (repeat' apply And.intro) <;> (try with_reducible refine x8 ?_) <;> first | omega | (simp [go_sem]; done)
       ·
        replace h := x9 h hb_46; obtain ⟨v_8, ev_8, h⟩ := q9 h; simp only [go_sem, hb_46]; refine q0f (qk1 g_0 xv_49.Scope s_0 v_8 ev_8) (by rfl) (by rfl) ?_; simp only [go_sem]; refine q8 Q20 ?_; refine j3 (b := (!v_8)) (by (simp only [go_sem]; done)) (fun hb_47 => ?_) (fun hb_47 => ?_)
        ·
         replace h := x9 h hb_47; simp only [bool_to_prop] at hb_47; obtain ⟨xv_52, ex52, h⟩ := q9 h; obtain ⟨f52a, f52b, f52c⟩ := u7 ex52; have rf_26 : (enc a_7).set (Int.toNat xv_48.To) [.v (.bool true)] = enc (List.set a_7 (Int.toNat xv_48.To) true) := by exact q3s _ _ _
         simp only [go_sem, f52a, f52b, f52c, rf_26]; refine And.intro (by omega) ?_; refine y8 Q17 (q8 Q16 ?_); simp only [go_sem]; refine w9 Q13 (⟨(m_2, i64.wrap (i_5 + 1), (List.set a_7 (Int.toNat xv_48.To) true)), [some 0, some 1], ?_, h, Nat.lt_succ_self _⟩); simp only [go_sem, Le] <;> (repeat' apply And.intro) <;> (try with_reducible refine x8 ?_) <;> first | omega | (simp [go_sem]; done)
        · replace h := u6 h hb_47; simp only [bool_to_prop] at hb_47; refine j4 (y8 Q17 (q8 Q16 ?_)); simp only [go_sem]; refine w9 Q13 (⟨(m_2, i64.wrap (i_5 + 1), a_7), [some 0, some 1], ?_, h, Nat.lt_succ_self _⟩); simp only [go_sem, Le] <;> (repeat' apply And.intro) <;> (try with_reducible refine x8 ?_) <;> first | omega | (simp [go_sem]; done)
     ·
      replace h := x9 h hb_44; simp only [go_sem, hb_44]; refine q8 Q20 ?_; refine q0o (by (simp only [go_sem]; done)) ?_; obtain ⟨xv_53, ex53, h⟩ := q9 h; obtain ⟨f53a, f53b, f53c⟩ := u7 ex53; have rf_27 : (enc a_7).set (Int.toNat xv_48.To) [.v (.bool true)] = enc (List.set a_7 (Int.toNat xv_48.To) true) := by exact q3s _ _ _
      simp only [go_sem, f53a, f53b, f53c, rf_27]; refine And.intro (by omega) ?_; refine y8 Q17 (q8 Q16 ?_); simp only [go_sem]; refine w9 Q13 (⟨(m_2, i64.wrap (i_5 + 1), (List.set a_7 (Int.toNat xv_48.To) true)), [some 0, some 1], ?_, h, Nat.lt_succ_self _⟩); simp only [go_sem, Le] <;> (repeat' apply And.intro) <;> (try with_reducible refine x8 ?_) <;> first | omega | (simp [go_sem]; done)
    · replace h := u6 h hb_43; simp only [bool_to_prop] at hb_43; refine q03 (q09 Q14 (q07 Q13 (d9 Q12 (y8 Q10 (q8 Q9 ?_))))); simp only [go_sem]; refine w9 Q6 (⟨(m_1, i64.wrap (round_1 + 1), a_7), [some 0, some 1], ?_, h, Nat.lt_succ_self _⟩); simp only [go_sem, Le] <;> (repeat' apply And.intro) <;> (try with_reducible refine x8 ?_) <;> first | omega | (simp [go_sem]; done)
  · replace h := u6 h hb_32; simp only [bool_to_prop] at hb_32; refine q03 (q09 Q7 (q07 Q6 (d9 Q5 (q8 Q3 (sg fun _ Q21 => ?_))))); simp only [go_sem]; refine q8 Q21 (z8 ?_); simp only [go_sem]; obtain rfl := Option.some.inj h; refine q0e [some 1] ?_; simp only [go_sem, Le]
theorem qm8 (g_0 : GGraph) (s_0 : Int)  (r : List Bool) (h : q2t g_0 s_0 = some r) : PureS Tryz.prog 72 [.agg [.sl 1 (enc g_0.Parent), .sl 1 (enc g_0.Bound), .sl 4 (enc g_0.Nodes), .sl 4 (enc g_0.Edges)], .v (.int .i64 s_0)] 0 (.sl 1 (enc r)) := by
 refine (qk2 g_0 s_0  r h).pure ?_; simp only [go_sem, Le] <;> (repeat' apply And.intro) <;> ((try with_reducible refine x8 ?_); (simp [go_sem]; done))

def q38 (g_0 : GGraph) (rec_5 : Int → Option (Int × Int)) : Int → Option (Int × Int) :=
 fun nv_7 =>
 (if (decide (nv_7 < (List.length g_0.Nodes : Int))) = true then j6 (idx g_0.Nodes nv_7) (fun (xv_37 : GNode) =>
 (if (xv_37.Kind == 10) = true then j6 (q2t g_0 xv_37.Scope) (fun (v_23 : List Bool) =>
 j6 (idx v_23 nv_7) (fun (xv_38 : Bool) =>
 (if xv_38 = true then some (8, nv_7)
 else rec_5 (i64.wrap (nv_7 + 1)))))
 else rec_5 (i64.wrap (nv_7 + 1))))
 else some (0, 0))
def q31 (g_0 : GGraph) : Option (Int × Int) :=
 p9 (q38 g_0) rounds 0
def q4n (g_0 : GGraph) (nv_9 : Int) (rec_6 : (Int → Option (Int × Int))) (count_27 : Int) : Option (Int × Int) :=
 j6 (idx g_0.Nodes nv_9) (fun (xv_56 : GNode) =>
 j6 (q2r xv_56.Kind) (fun (v_26 : Int) =>
 (if (decide (count_27 < v_26)) = true then some (7, nv_9)
 else rec_6 (i64.wrap (nv_9 + 1)))))
def q37 (g_0 : GGraph) (nv_9 : Int) (rec_6 : (Int → Option (Int × Int))) (rec_8 : Int × Int → Option (Int × Int)) : Int × Int → Option (Int × Int) :=
 fun (count_29, i_23) =>
 (if (decide (i_23 < (List.length g_0.Edges : Int))) = true then j6 (idx g_0.Edges i_23) (fun (xv_59 : GEdge) =>
 (if (xv_59.To == nv_9) = true then rec_8 (i64.wrap (count_29 + 1), i64.wrap (i_23 + 1))
 else rec_8 (count_29, i64.wrap (i_23 + 1))))
 else q4n g_0 nv_9 rec_6 count_29)
def q1n (g_0 : GGraph) (rec_6 : Int → Option (Int × Int)) : Int → Option (Int × Int) :=
 fun nv_9 =>
 (if (decide (nv_9 < (List.length g_0.Nodes : Int))) = true then p9 (q37 g_0 nv_9 rec_6) rounds (0, 0)
 else q31 g_0)
def q33 (g_0 : GGraph) : Option (Int × Int) :=
 p9 (q1n g_0) rounds 0
def q36 (g_0 : GGraph) (rec_9 : Int → Option (Int × Int)) : Int → Option (Int × Int) :=
 fun nv_11 =>
 (if (decide (nv_11 < (List.length g_0.Edges : Int))) = true then j6 (q4m g_0 nv_11) (fun (v_29 : Int) =>
 (if (!(v_29 == 0)) = true then some (v_29, nv_11)
 else rec_9 (i64.wrap (nv_11 + 1))))
 else q33 g_0)
def q34 (g_0 : GGraph) : Option (Int × Int) :=
 p9 (q36 g_0) rounds 0
def q2o (g_0 : GGraph) (rec_10 : Int → Option (Int × Int)) : Int → Option (Int × Int) :=
 fun nv_13 =>
 (if (decide (nv_13 < (List.length g_0.Nodes : Int))) = true then j6 (q4l g_0 nv_13) (fun (v_32 : Int) =>
 (if (!(v_32 == 0)) = true then some (v_32, nv_13)
 else rec_10 (i64.wrap (nv_13 + 1))))
 else q34 g_0)
def q35 (g_0 : GGraph) : Option (Int × Int) :=
 (if ((((List.length g_0.Nodes : Int) == 0) || (decide (32 < (List.length g_0.Nodes : Int)))) || (decide (64 < (List.length g_0.Edges : Int)))) = true then some (11, 0)
 else p9 (q2o g_0) rounds 0)
def q18 (s_3 : Int) (rec_11 : (Int → Option (Int × Int))) (ok_10 : Bool) : Option (Int × Int) :=
 (if (!ok_10) = true then some (6, s_3)
 else rec_11 (i64.wrap (s_3 + 1)))
def q17 (s_3 : Int) (rec_11 : (Int → Option (Int × Int))) (ok_11 : Bool) : Option (Int × Int) :=
 (if (!ok_11) = true then some (6, s_3)
 else rec_11 (i64.wrap (s_3 + 1)))
def q1j (g_0 : GGraph) (rec_11 : Int → Option (Int × Int)) : Int → Option (Int × Int) :=
 fun s_3 =>
 (if (decide (s_3 < (List.length g_0.Parent : Int))) = true then j6 (idx g_0.Parent s_3) (fun (xv_68 : Int) =>
 (if (xv_68 == (-1)) = true then j6 (idx g_0.Bound s_3) (fun (xv_71 : Int) =>
 (if (decide (0 < s_3)) = true then (if (decide (0 ≤ xv_68)) = true then (if (decide (xv_68 < s_3)) = true then (if (decide (1 ≤ xv_71)) = true then (if (decide (xv_71 ≤ 64)) = true then j6 (q26 g_0 s_3) (fun (v_44 : List Int) =>
 q17 s_3 rec_11 (decide ((List.length v_44 : Int) ≤ 4)))
 else q17 s_3 rec_11 false)
 else q17 s_3 rec_11 false)
 else q17 s_3 rec_11 false)
 else q17 s_3 rec_11 false)
 else q17 s_3 rec_11 (xv_71 == 0)))
 else (if (decide (0 < s_3)) = true then (if (decide (0 ≤ xv_68)) = true then (if (decide (xv_68 < s_3)) = true then j6 (idx g_0.Bound s_3) (fun (xv_70 : Int) =>
 (if (decide (1 ≤ xv_70)) = true then (if (decide (xv_70 ≤ 64)) = true then j6 (q26 g_0 s_3) (fun (v_42 : List Int) =>
 q18 s_3 rec_11 (decide ((List.length v_42 : Int) ≤ 4)))
 else q18 s_3 rec_11 false)
 else q18 s_3 rec_11 false))
 else q18 s_3 rec_11 false)
 else q18 s_3 rec_11 false)
 else q18 s_3 rec_11 false)))
 else q35 g_0)
def q46 (g_0 : GGraph) : Option (Int × Int) :=
 (if ((((List.length g_0.Parent : Int) == 0) || (decide (8 < (List.length g_0.Parent : Int)))) || (!((List.length g_0.Parent : Int) == (List.length g_0.Bound : Int)))) = true then some (6, 0)
 else p9 (q1j g_0) rounds 0)
theorem qm7 (g_0 : GGraph)  (r : Int × Int) (h : q46 g_0 = some r) : PureS Tryz.prog 30 [.agg [.sl 1 (enc g_0.Parent), .sl 1 (enc g_0.Bound), .sl 4 (enc g_0.Nodes), .sl 4 (enc g_0.Edges)]] 0 (.tup [.v (.int .i64 r.1), .v (.int .i64 r.2)]) := by
 unfold PureS; refine Spec.of_vc Tryz.func30 rfl (by kernel_rfl) (by kernel_rfl) ?_; rw [q46] at h; refine sg fun _ Q1 => ?_; simp only [go_sem]; refine q8 Q1 (sg fun _ Q2 => ?_); refine sg fun _ Q3 => ?_; simp only [go_sem]; refine q8 Q3 ?_; refine j3 (b := ((((List.length g_0.Parent : Int) == 0) || (decide (8 < (List.length g_0.Parent : Int)))) || (!((List.length g_0.Parent : Int) == (List.length g_0.Bound : Int))))) (by (simp only [go_sem]; done)) (fun hb_0 => ?_) (fun hb_0 => ?_)
 · replace h := x9 h hb_0; simp only [bool_to_prop] at hb_0; refine sg fun _ Q4 => ?_; simp only [go_sem]; refine q8 Q4 (z8 (y5 Q2 ?_)); simp only [go_sem]; obtain rfl := Option.some.inj h; refine j5 rfl ?_; simp only [go_sem, Le]
 ·
  replace h := u6 h hb_0; simp only [bool_to_prop] at hb_0; refine j4 (q8 Q2 (q0a (by kernel_rfl) ?_)); refine q0x (ι := Unit) (fun (_ : Unit) => (⟨0, [(1, .ptr 0 0)], [(0, .box [.sl 1 (enc g_0.Parent), .sl 1 (enc g_0.Bound), .sl 4 (enc g_0.Nodes), .sl 4 (enc g_0.Edges)])], 1, 204⟩ : St)) (fun (_ : Unit) => q35 g_0 = some r) ?_ ?_
  ·
   intro _ Q61; refine sg fun _ Q62 => ?_; simp only [go_sem]; refine q8 Q62 (y7 ?_); intro _ Q63; refine q06 ?_; refine q0g (ι := Nat × Int) (fun ((_, s_3) : Nat × Int) => (⟨0, [(1, .ptr 0 0), (4, .v (.int .i64 s_3))], [(0, .box [.sl 1 (enc g_0.Parent), .sl 1 (enc g_0.Bound), .sl 4 (enc g_0.Nodes), .sl 4 (enc g_0.Edges)])], 1, 204⟩ : St)) (fun ((n_, s_3) : Nat × Int) => p9 (q1j g_0) n_ s_3 = some r) (fun p => p.1) (rounds, 0) [some 0] ?_ h ?_
   · simp only [go_sem, Le]
   ·
    rintro ⟨n_11, s_3⟩ h _ Q64; dsimp only at h; replace h := q08 h; obtain ⟨m_11, rfl, h⟩ := h; rw [q1j] at h; refine sg fun _ Q65 => ?_; refine sg fun _ Q66 => ?_; simp only [go_sem]; refine q8 Q66 ?_; refine j3 (b := (decide (s_3 < (List.length g_0.Parent : Int)))) (by (simp only [go_sem]; done)) (fun hb_239 => ?_) (fun hb_239 => ?_)
    ·
     replace h := x9 h hb_239; simp only [bool_to_prop] at hb_239; refine j4 (q8 Q65 (q0a (by kernel_rfl) ?_)); refine q0c ?_; intro _ Q67; refine y7 ?_; intro _ Q68; refine sg fun _ Q69 => ?_; obtain ⟨xv_68, ex68, h⟩ := q9 h; obtain ⟨f68a, f68b, f68c⟩ := u7 ex68; simp only [go_sem, f68a, f68b, f68c]; refine And.intro (by omega) ?_; rcases hb_240 : (xv_68 == (-1)) with _ | _
     ·
      replace h := u6 h hb_240; simp only [go_sem, hb_240]; refine q8 Q69 (q0a (by kernel_rfl) ?_); refine q0x (ι := Bool) (fun (ok_10 : Bool) => (⟨0, [(1, .ptr 0 0), (4, .v (.int .i64 s_3)), (5, .v (.bool ok_10))], [(0, .box [.sl 1 (enc g_0.Parent), .sl 1 (enc g_0.Bound), .sl 4 (enc g_0.Nodes), .sl 4 (enc g_0.Edges)])], 1, 204⟩ : St)) (fun (ok_10 : Bool) => q18 s_3 (p9 (q1j g_0) m_11) ok_10 = some r) ?_ ?_
      ·
       intro _ Q72; refine sg fun _ Q73 => ?_; simp only [go_sem]; refine q8 Q73 ?_; refine j3 (b := (decide (0 < s_3))) (by (simp only [go_sem]; done)) (fun hb_247 => ?_) (fun hb_247 => ?_)
       ·
        replace h := x9 h hb_247; simp only [bool_to_prop] at hb_247; refine sg fun _ Q74 => ?_; simp only [go_sem, f68a, f68b, f68c]; refine And.intro (by omega) ?_; rcases hb_248 : (decide (0 ≤ xv_68)) with _ | _
        · replace h := u6 h hb_248; simp only [go_sem, hb_248]; refine q8 Q74 ?_; simp only [go_sem]; refine w9 Q72 (⟨false, [some 0], ?_, h⟩); simp only [go_sem, Le]
        ·
         replace h := x9 h hb_248; simp only [go_sem, hb_248, f68a, f68b, f68c]; refine And.intro (by omega) ?_; rcases hb_249 : (decide (xv_68 < s_3)) with _ | _
         · replace h := u6 h hb_249; simp only [go_sem, hb_249]; refine q8 Q74 ?_; simp only [go_sem]; refine w9 Q72 (⟨false, [some 0], ?_, h⟩); simp only [go_sem, Le]
         ·
          replace h := x9 h hb_249; obtain ⟨xv_70, ex70, h⟩ := q9 h; obtain ⟨f70a, f70b, f70c⟩ := u7 ex70; simp only [go_sem, hb_249, f70a, f70b, f70c]; refine And.intro (by omega) ?_; rcases hb_250 : (decide (1 ≤ xv_70)) with _ | _
          · replace h := u6 h hb_250; simp only [go_sem, hb_250]; refine q8 Q74 ?_; simp only [go_sem]; refine w9 Q72 (⟨false, [some 0], ?_, h⟩); simp only [go_sem, Le]
          ·
           replace h := x9 h hb_250; simp only [go_sem, hb_250, f70a, f70b, f70c]; refine And.intro (by omega) ?_; refine q8 Q74 ?_; simp only [go_sem]; rcases hb_251 : (decide (xv_70 ≤ 64)) with _ | _
           · replace h := u6 h hb_251; simp only [go_sem, hb_251]; refine w9 Q72 (⟨false, [some 0], ?_, h⟩); simp only [go_sem, Le]
           · replace h := x9 h hb_251; obtain ⟨v_42, ev_42, h⟩ := q9 h; simp only [go_sem, hb_251]; refine q19 [] (q4a g_0 s_3 v_42 ev_42) (by simp) rfl trivial rfl rfl rfl rfl ?_; simp only [go_sem]; refine w9 Q72 (⟨(decide ((List.length v_42 : Int) ≤ 4)), [some 0], ?_, h⟩); simp only [go_sem, Le]
       · replace h := u6 h hb_247; simp only [bool_to_prop] at hb_247; refine j4 (w9 Q72 (⟨false, [some 0], ?_, h⟩)); simp only [go_sem, Le]
      ·
       rintro ok_10 h
       try dsimp only at h
       rw [q18] at h; refine sg fun _ Q70 => ?_; simp only [go_sem]; refine q8 Q70 ?_; refine j3 (b := (!ok_10)) (by (simp only [go_sem]; done)) (fun hb_246 => ?_) (fun hb_246 => ?_)
       · replace h := x9 h hb_246; simp only [bool_to_prop] at hb_246; refine sg fun _ Q71 => ?_; simp only [go_sem]; refine q8 Q71 (z8 (y9 Q68 (y5 Q67 (q04 Q64 (y9 Q63 (q04 Q61 ?_)))))); simp only [go_sem]; obtain rfl := Option.some.inj h; refine j5 rfl ?_; simp only [go_sem, Le]
       · replace h := u6 h hb_246; simp only [bool_to_prop] at hb_246; refine j4 (y8 Q68 (q8 Q67 ?_)); simp only [go_sem]; refine w9 Q64 (⟨(m_11, i64.wrap (s_3 + 1)), [some 0], ?_, h, Nat.lt_succ_self _⟩); simp only [go_sem, Le]
     ·
      replace h := x9 h hb_240; obtain ⟨xv_71, ex71, h⟩ := q9 h; obtain ⟨f71a, f71b, f71c⟩ := u7 ex71; simp only [go_sem, hb_240, f71a, f71b, f71c]; refine And.intro (by omega) ?_; refine q8 Q69 (q0a (by kernel_rfl) ?_); refine q0x (ι := Bool) (fun (ok_11 : Bool) => (⟨0, [(1, .ptr 0 0), (4, .v (.int .i64 s_3)), (5, .v (.bool ok_11)), (47, .ptr 0 1), (48, .sl 1 (enc g_0.Bound)), (49, .v (.int .i64 s_3)), (51, .v (.int .i64 xv_71)), (52, .v (.bool (xv_71 == 0)))], [(0, .box [.sl 1 (enc g_0.Parent), .sl 1 (enc g_0.Bound), .sl 4 (enc g_0.Nodes), .sl 4 (enc g_0.Edges)])], 1, 204⟩ : St)) (fun (ok_11 : Bool) => q17 s_3 (p9 (q1j g_0) m_11) ok_11 = some r) ?_ ?_
      ·
       intro _ Q77; refine sg fun _ Q78 => ?_; simp only [go_sem]; refine q8 Q78 ?_; refine j3 (b := (decide (0 < s_3))) (by (simp only [go_sem]; done)) (fun hb_258 => ?_) (fun hb_258 => ?_)
       ·
        replace h := x9 h hb_258; simp only [bool_to_prop] at hb_258; refine sg fun _ Q79 => ?_; simp only [go_sem, f68a, f68b, f68c]; refine And.intro (by omega) ?_; rcases hb_259 : (decide (0 ≤ xv_68)) with _ | _
        · replace h := u6 h hb_259; simp only [go_sem, hb_259]; refine q8 Q79 ?_; simp only [go_sem]; refine w9 Q77 (⟨false, [some 0], ?_, h⟩); simp only [go_sem, Le]
        ·
         replace h := x9 h hb_259; simp only [go_sem, hb_259, f68a, f68b, f68c]; refine And.intro (by omega) ?_; rcases hb_260 : (decide (xv_68 < s_3)) with _ | _
         · replace h := u6 h hb_260; simp only [go_sem, hb_260]; refine q8 Q79 ?_; simp only [go_sem]; refine w9 Q77 (⟨false, [some 0], ?_, h⟩); simp only [go_sem, Le]
         ·
          replace h := x9 h hb_260; simp only [go_sem, hb_260, f71a, f71b, f71c]; refine And.intro (by omega) ?_; rcases hb_261 : (decide (1 ≤ xv_71)) with _ | _
          · replace h := u6 h hb_261; simp only [go_sem, hb_261]; refine q8 Q79 ?_; simp only [go_sem]; refine w9 Q77 (⟨false, [some 0], ?_, h⟩); simp only [go_sem, Le]
          ·
           replace h := x9 h hb_261; simp only [go_sem, hb_261, f71a, f71b, f71c]; refine And.intro (by omega) ?_; refine q8 Q79 ?_; simp only [go_sem]; rcases hb_262 : (decide (xv_71 ≤ 64)) with _ | _
           · replace h := u6 h hb_262; simp only [go_sem, hb_262]; refine w9 Q77 (⟨false, [some 0], ?_, h⟩); simp only [go_sem, Le]
           · replace h := x9 h hb_262; obtain ⟨v_44, ev_44, h⟩ := q9 h; simp only [go_sem, hb_262]; refine q19 [] (q4a g_0 s_3 v_44 ev_44) (by simp) rfl trivial rfl rfl rfl rfl ?_; simp only [go_sem]; refine w9 Q77 (⟨(decide ((List.length v_44 : Int) ≤ 4)), [some 0], ?_, h⟩); simp only [go_sem, Le]
       · replace h := u6 h hb_258; simp only [bool_to_prop] at hb_258; refine j4 (w9 Q77 (⟨(xv_71 == 0), [some 0], ?_, h⟩)); simp only [go_sem, Le]
      ·
       rintro ok_11 h
       try dsimp only at h
       rw [q17] at h; refine sg fun _ Q75 => ?_; simp only [go_sem]; refine q8 Q75 ?_; refine j3 (b := (!ok_11)) (by (simp only [go_sem]; done)) (fun hb_257 => ?_) (fun hb_257 => ?_)
       · replace h := x9 h hb_257; simp only [bool_to_prop] at hb_257; refine sg fun _ Q76 => ?_; simp only [go_sem]; refine q8 Q76 (z8 (y9 Q68 (y5 Q67 (q04 Q64 (y9 Q63 (q04 Q61 ?_)))))); simp only [go_sem]; obtain rfl := Option.some.inj h; refine j5 rfl ?_; simp only [go_sem, Le]
       · replace h := u6 h hb_257; simp only [bool_to_prop] at hb_257; refine j4 (y8 Q68 (q8 Q67 ?_)); simp only [go_sem]; refine w9 Q64 (⟨(m_11, i64.wrap (s_3 + 1)), [some 0], ?_, h, Nat.lt_succ_self _⟩); simp only [go_sem, Le]
    · replace h := u6 h hb_239; simp only [bool_to_prop] at hb_239; refine q03 (q09 Q65 (q07 Q64 (d9 Q63 (w9 Q61 (⟨(), [some 0], ?_, h⟩))))); simp only [go_sem, Le]
  ·
   rintro ⟨⟩ h
   try dsimp only at h
   rw [q35] at h; refine sg fun _ Q5 => ?_; refine sg fun _ Q6 => ?_; simp only [go_sem]; refine q8 Q6 ?_; refine j3 (b := ((((List.length g_0.Nodes : Int) == 0) || (decide (32 < (List.length g_0.Nodes : Int)))) || (decide (64 < (List.length g_0.Edges : Int))))) (by (simp only [go_sem]; done)) (fun hb_73 => ?_) (fun hb_73 => ?_)
   · replace h := x9 h hb_73; simp only [bool_to_prop] at hb_73; refine sg fun _ Q7 => ?_; simp only [go_sem]; refine q8 Q7 (z8 (y5 Q5 ?_)); simp only [go_sem]; obtain rfl := Option.some.inj h; refine j5 rfl ?_; simp only [go_sem, Le]
   ·
    replace h := u6 h hb_73; simp only [bool_to_prop] at hb_73; refine j4 (q8 Q5 (q0a (by kernel_rfl) ?_)); refine q0x (ι := Unit) (fun (_ : Unit) => (⟨0, [(1, .ptr 0 0)], [(0, .box [.sl 1 (enc g_0.Parent), .sl 1 (enc g_0.Bound), .sl 4 (enc g_0.Nodes), .sl 4 (enc g_0.Edges)])], 1, 204⟩ : St)) (fun (_ : Unit) => q34 g_0 = some r) ?_ ?_
    ·
     intro _ Q50; refine sg fun _ Q51 => ?_; simp only [go_sem]; refine q8 Q51 (y7 ?_); intro _ Q52; refine q06 ?_; refine q0g (ι := Nat × Int) (fun ((_, nv_13) : Nat × Int) => (⟨0, [(1, .ptr 0 0), (6, .v (.int .i64 nv_13))], [(0, .box [.sl 1 (enc g_0.Parent), .sl 1 (enc g_0.Bound), .sl 4 (enc g_0.Nodes), .sl 4 (enc g_0.Edges)])], 1, 204⟩ : St)) (fun ((n_, nv_13) : Nat × Int) => p9 (q2o g_0) n_ nv_13 = some r) (fun p => p.1) (rounds, 0) [some 0] ?_ h ?_
     · simp only [go_sem, Le]
     ·
      rintro ⟨n_10, nv_13⟩ h _ Q53; dsimp only at h; replace h := q08 h; obtain ⟨m_10, rfl, h⟩ := h; rw [q2o] at h; refine sg fun _ Q54 => ?_; refine sg fun _ Q55 => ?_; simp only [go_sem]; refine q8 Q55 ?_; refine j3 (b := (decide (nv_13 < (List.length g_0.Nodes : Int)))) (by (simp only [go_sem]; done)) (fun hb_189 => ?_) (fun hb_189 => ?_)
      ·
       replace h := x9 h hb_189; simp only [bool_to_prop] at hb_189; refine j4 (q8 Q54 (sg fun _ Q56 => ?_)); refine y7 ?_; intro _ Q57; refine sg fun _ Q58 => ?_; obtain ⟨v_32, ev_32, h⟩ := q9 h; simp only [go_sem]; refine q0f (qn9 g_0 nv_13 v_32 ev_32) (by rfl) (by rfl) ?_; simp only [go_sem]; refine q8 Q58 (sg fun _ Q59 => ?_); simp only [go_sem]; refine q8 Q59 ?_; refine j3 (b := (!(v_32 == 0))) (by (simp only [go_sem]; done)) (fun hb_190 => ?_) (fun hb_190 => ?_)
       · replace h := x9 h hb_190; simp only [bool_to_prop] at hb_190; refine sg fun _ Q60 => ?_; simp only [go_sem]; refine q8 Q60 (z8 (y9 Q57 (y5 Q56 (q04 Q53 (y9 Q52 (q04 Q50 ?_)))))); simp only [go_sem]; obtain rfl := Option.some.inj h; refine j5 rfl ?_; simp only [go_sem, Le]
       · replace h := u6 h hb_190; simp only [bool_to_prop] at hb_190; refine j4 (y8 Q57 (q8 Q56 ?_)); simp only [go_sem]; refine w9 Q53 (⟨(m_10, i64.wrap (nv_13 + 1)), [some 0], ?_, h, Nat.lt_succ_self _⟩); simp only [go_sem, Le]
      · replace h := u6 h hb_189; simp only [bool_to_prop] at hb_189; refine q03 (q09 Q54 (q07 Q53 (d9 Q52 (w9 Q50 (⟨(), [some 0], ?_, h⟩))))); simp only [go_sem, Le]
    ·
     rintro ⟨⟩ h
     try dsimp only at h
     rw [q34] at h; refine q0a (by kernel_rfl) ?_; refine q0x (ι := Unit) (fun (_ : Unit) => (⟨0, [(1, .ptr 0 0)], [(0, .box [.sl 1 (enc g_0.Parent), .sl 1 (enc g_0.Bound), .sl 4 (enc g_0.Nodes), .sl 4 (enc g_0.Edges)])], 1, 204⟩ : St)) (fun (_ : Unit) => q33 g_0 = some r) ?_ ?_
     ·
      intro _ Q39; refine sg fun _ Q40 => ?_; simp only [go_sem]; refine q8 Q40 (y7 ?_); intro _ Q41; refine q06 ?_; refine q0g (ι := Nat × Int) (fun ((_, nv_11) : Nat × Int) => (⟨0, [(1, .ptr 0 0), (8, .v (.int .i64 nv_11))], [(0, .box [.sl 1 (enc g_0.Parent), .sl 1 (enc g_0.Bound), .sl 4 (enc g_0.Nodes), .sl 4 (enc g_0.Edges)])], 1, 204⟩ : St)) (fun ((n_, nv_11) : Nat × Int) => p9 (q36 g_0) n_ nv_11 = some r) (fun p => p.1) (rounds, 0) [some 0] ?_ h ?_
      · simp only [go_sem, Le]
      ·
       rintro ⟨n_9, nv_11⟩ h _ Q42; dsimp only at h; replace h := q08 h; obtain ⟨m_9, rfl, h⟩ := h; rw [q36] at h; refine sg fun _ Q43 => ?_; refine sg fun _ Q44 => ?_; simp only [go_sem]; refine q8 Q44 ?_; refine j3 (b := (decide (nv_11 < (List.length g_0.Edges : Int)))) (by (simp only [go_sem]; done)) (fun hb_183 => ?_) (fun hb_183 => ?_)
       ·
        replace h := x9 h hb_183; simp only [bool_to_prop] at hb_183; refine j4 (q8 Q43 (sg fun _ Q45 => ?_)); refine y7 ?_; intro _ Q46; refine sg fun _ Q47 => ?_; obtain ⟨v_29, ev_29, h⟩ := q9 h; simp only [go_sem]; refine q0f (qo0 g_0 nv_11 v_29 ev_29) (by rfl) (by rfl) ?_; simp only [go_sem]; refine q8 Q47 (sg fun _ Q48 => ?_); simp only [go_sem]; refine q8 Q48 ?_; refine j3 (b := (!(v_29 == 0))) (by (simp only [go_sem]; done)) (fun hb_184 => ?_) (fun hb_184 => ?_)
        · replace h := x9 h hb_184; simp only [bool_to_prop] at hb_184; refine sg fun _ Q49 => ?_; simp only [go_sem]; refine q8 Q49 (z8 (y9 Q46 (y5 Q45 (q04 Q42 (y9 Q41 (q04 Q39 ?_)))))); simp only [go_sem]; obtain rfl := Option.some.inj h; refine j5 rfl ?_; simp only [go_sem, Le]
        · replace h := u6 h hb_184; simp only [bool_to_prop] at hb_184; refine j4 (y8 Q46 (q8 Q45 ?_)); simp only [go_sem]; refine w9 Q42 (⟨(m_9, i64.wrap (nv_11 + 1)), [some 0], ?_, h, Nat.lt_succ_self _⟩); simp only [go_sem, Le]
       · replace h := u6 h hb_183; simp only [bool_to_prop] at hb_183; refine q03 (q09 Q43 (q07 Q42 (d9 Q41 (w9 Q39 (⟨(), [some 0], ?_, h⟩))))); simp only [go_sem, Le]
     ·
      rintro ⟨⟩ h
      try dsimp only at h
      rw [q33] at h; refine q0a (by kernel_rfl) ?_; refine q0x (ι := Unit) (fun (_ : Unit) => (⟨0, [(1, .ptr 0 0)], [(0, .box [.sl 1 (enc g_0.Parent), .sl 1 (enc g_0.Bound), .sl 4 (enc g_0.Nodes), .sl 4 (enc g_0.Edges)])], 1, 204⟩ : St)) (fun (_ : Unit) => q31 g_0 = some r) ?_ ?_
      ·
       intro _ Q19; refine sg fun _ Q20 => ?_; simp only [go_sem]; refine q8 Q20 (y7 ?_); intro _ Q21; refine q06 ?_; refine q0g (ι := Nat × Int) (fun ((_, nv_9) : Nat × Int) => (⟨0, [(1, .ptr 0 0), (10, .v (.int .i64 nv_9))], [(0, .box [.sl 1 (enc g_0.Parent), .sl 1 (enc g_0.Bound), .sl 4 (enc g_0.Nodes), .sl 4 (enc g_0.Edges)])], 1, 204⟩ : St)) (fun ((n_, nv_9) : Nat × Int) => p9 (q1n g_0) n_ nv_9 = some r) (fun p => p.1) (rounds, 0) [some 0] ?_ h ?_
       · simp only [go_sem, Le]
       ·
        rintro ⟨n_6, nv_9⟩ h _ Q22; dsimp only at h; replace h := q08 h; obtain ⟨m_6, rfl, h⟩ := h; rw [q1n] at h; refine sg fun _ Q23 => ?_; refine sg fun _ Q24 => ?_; simp only [go_sem]; refine q8 Q24 ?_; refine j3 (b := (decide (nv_9 < (List.length g_0.Nodes : Int)))) (by (simp only [go_sem]; done)) (fun hb_165 => ?_) (fun hb_165 => ?_)
        ·
         replace h := x9 h hb_165; simp only [bool_to_prop] at hb_165; refine j4 (q8 Q23 (q0a (by kernel_rfl) ?_)); refine q0c ?_; intro _ Q25; refine y7 ?_; intro _ Q26; refine sg fun _ Q27 => ?_; simp only [go_sem]; refine q8 Q27 (q0a (by kernel_rfl) ?_); refine q0x (ι := Int) (fun (count_27 : Int) => (⟨0, [(1, .ptr 0 0), (10, .v (.int .i64 nv_9)), (11, .v (.int .i64 count_27))], [(0, .box [.sl 1 (enc g_0.Parent), .sl 1 (enc g_0.Bound), .sl 4 (enc g_0.Nodes), .sl 4 (enc g_0.Edges)])], 1, 204⟩ : St)) (fun (count_27 : Int) => q4n g_0 nv_9 (p9 (q1n g_0) m_6) count_27 = some r) ?_ ?_
         ·
          intro _ Q30; refine sg fun _ Q31 => ?_; simp only [go_sem]; refine q8 Q31 (y7 ?_); intro _ Q32; refine q06 ?_; refine q0g (ι := Nat × Int × Int) (fun ((_, count_29, i_23) : Nat × Int × Int) => (⟨0, [(1, .ptr 0 0), (10, .v (.int .i64 nv_9)), (11, .v (.int .i64 count_29)), (12, .v (.int .i64 i_23))], [(0, .box [.sl 1 (enc g_0.Parent), .sl 1 (enc g_0.Bound), .sl 4 (enc g_0.Nodes), .sl 4 (enc g_0.Edges)])], 1, 204⟩ : St)) (fun ((n_, count_29, i_23) : Nat × Int × Int) => p9 (q37 g_0 nv_9 (p9 (q1n g_0) m_6)) n_ (count_29, i_23) = some r) (fun p => p.1) (rounds, 0, 0) [some 0] ?_ h ?_
          · simp only [go_sem, Le]
          ·
           rintro ⟨n_8, count_29, i_23⟩ h _ Q33; dsimp only at h; replace h := q08 h; obtain ⟨m_8, rfl, h⟩ := h; rw [q37] at h; refine sg fun _ Q34 => ?_; refine sg fun _ Q35 => ?_; simp only [go_sem]; refine q8 Q35 ?_; refine j3 (b := (decide (i_23 < (List.length g_0.Edges : Int)))) (by (simp only [go_sem]; done)) (fun hb_177 => ?_) (fun hb_177 => ?_)
           ·
            replace h := x9 h hb_177; simp only [bool_to_prop] at hb_177; refine j4 (q8 Q34 (q0a (by kernel_rfl) ?_)); refine q0c ?_; intro _ Q36; refine y7 ?_; intro _ Q37; refine sg fun _ Q38 => ?_; obtain ⟨xv_59, ex59, h⟩ := q9 h; obtain ⟨f59a, f59b, f59c⟩ := u7 ex59; simp only [go_sem, f59a, f59b, f59c]; refine And.intro (by omega) ?_; refine q8 Q38 ?_; refine j3 (b := (xv_59.To == nv_9)) (by (simp only [go_sem]; done)) (fun hb_178 => ?_) (fun hb_178 => ?_)
            · replace h := x9 h hb_178; simp only [bool_to_prop] at hb_178; simp only [go_sem]; refine y8 Q37 (q8 Q36 ?_); simp only [go_sem]; refine w9 Q33 (⟨(m_8, i64.wrap (count_29 + 1), i64.wrap (i_23 + 1)), [some 0], ?_, h, Nat.lt_succ_self _⟩); simp only [go_sem, Le]
            · replace h := u6 h hb_178; simp only [bool_to_prop] at hb_178; refine j4 (y8 Q37 (q8 Q36 ?_)); simp only [go_sem]; refine w9 Q33 (⟨(m_8, count_29, i64.wrap (i_23 + 1)), [some 0], ?_, h, Nat.lt_succ_self _⟩); simp only [go_sem, Le]
           · replace h := u6 h hb_177; simp only [bool_to_prop] at hb_177; refine q03 (q09 Q34 (q07 Q33 (d9 Q32 (w9 Q30 (⟨count_29, [some 0], ?_, h⟩))))); simp only [go_sem, Le]
         ·
          rintro count_27 h
          try dsimp only at h
          rw [q4n] at h; refine sg fun _ Q28 => ?_; obtain ⟨xv_56, ex56, h⟩ := q9 h; obtain ⟨f56a, f56b, f56c⟩ := u7 ex56; obtain ⟨v_26, ev_26, h⟩ := q9 h; simp only [go_sem, f56a, f56b, f56c]; refine And.intro (by omega) ?_; refine q0f (q8q xv_56.Kind v_26 ev_26) (by rfl) (by rfl) ?_; simp only [go_sem]; refine q8 Q28 ?_; refine j3 (b := (decide (count_27 < v_26))) (by (simp only [go_sem]; done)) (fun hb_172 => ?_) (fun hb_172 => ?_)
          · replace h := x9 h hb_172; simp only [bool_to_prop] at hb_172; refine sg fun _ Q29 => ?_; simp only [go_sem]; refine q8 Q29 (z8 (y9 Q26 (y5 Q25 (q04 Q22 (y9 Q21 (q04 Q19 ?_)))))); simp only [go_sem]; obtain rfl := Option.some.inj h; refine j5 rfl ?_; simp only [go_sem, Le]
          · replace h := u6 h hb_172; simp only [bool_to_prop] at hb_172; refine j4 (y8 Q26 (q8 Q25 ?_)); simp only [go_sem]; refine w9 Q22 (⟨(m_6, i64.wrap (nv_9 + 1)), [some 0], ?_, h, Nat.lt_succ_self _⟩); simp only [go_sem, Le]
        · replace h := u6 h hb_165; simp only [bool_to_prop] at hb_165; refine q03 (q09 Q23 (q07 Q22 (d9 Q21 (w9 Q19 (⟨(), [some 0], ?_, h⟩))))); simp only [go_sem, Le]
      ·
       rintro ⟨⟩ h
       try dsimp only at h
       rw [q31] at h; refine q0a (by kernel_rfl) ?_; refine q0c ?_; intro _ Q8; refine sg fun _ Q9 => ?_; simp only [go_sem]; refine q8 Q9 (y7 ?_); intro _ Q10; refine q06 ?_; refine q0g (ι := Nat × Int) (fun ((_, nv_7) : Nat × Int) => (⟨0, [(1, .ptr 0 0), (13, .v (.int .i64 nv_7))], [(0, .box [.sl 1 (enc g_0.Parent), .sl 1 (enc g_0.Bound), .sl 4 (enc g_0.Nodes), .sl 4 (enc g_0.Edges)])], 1, 204⟩ : St)) (fun ((n_, nv_7) : Nat × Int) => p9 (q38 g_0) n_ nv_7 = some r) (fun p => p.1) (rounds, 0) [some 0] ?_ h ?_
       · simp only [go_sem, Le]
       ·
        rintro ⟨n_5, nv_7⟩ h _ Q11; dsimp only at h; replace h := q08 h; obtain ⟨m_5, rfl, h⟩ := h; rw [q38] at h; refine sg fun _ Q12 => ?_; refine sg fun _ Q13 => ?_; simp only [go_sem]; refine q8 Q13 ?_; refine j3 (b := (decide (nv_7 < (List.length g_0.Nodes : Int)))) (by (simp only [go_sem]; done)) (fun hb_134 => ?_) (fun hb_134 => ?_)
        ·
         replace h := x9 h hb_134; simp only [bool_to_prop] at hb_134; refine j4 (q8 Q12 (sg fun _ Q14 => ?_)); refine y7 ?_; intro _ Q15; refine sg fun _ Q16 => ?_; refine q0q ?_; refine q0l 17 [0, 1, 0, 7, 15, 31, 63, 127, 255, 255, 767, 255, 3839, 7935, 16127, 32767, 255, 131071, 262143, 524287] mixed (by kernel_rfl) (of_decide_eq_true (by kernel_rfl)) (by kernel_rfl) ?_; obtain ⟨xv_37, ex37, h⟩ := q9 h; obtain ⟨f37a, f37b, f37c⟩ := u7 ex37; simp only [go_sem, f37a, f37b, f37c]; refine And.intro (by omega) ?_; rcases hb_135 : (xv_37.Kind == 10) with _ | _
         · replace h := u6 h hb_135; simp only [go_sem, hb_135]; refine q8 Q16 ?_; refine q55 (by (simp only [go_sem]; done)) ?_; refine j4 (y8 Q15 (q8 Q14 ?_)); simp only [go_sem]; refine w9 Q11 (⟨(m_5, i64.wrap (nv_7 + 1)), [some 0], ?_, h, Nat.lt_succ_self _⟩); simp only [go_sem, Le]
         ·
          replace h := x9 h hb_135; obtain ⟨v_23, ev_23, h⟩ := q9 h; simp only [go_sem, hb_135, f37a, f37b, f37c]; refine And.intro (by omega) ?_; refine callq (fun _ => (qm8 g_0 xv_37.Scope v_23 ev_23)) (by rfl) (by rfl) ?_; obtain ⟨xv_38, ex38, h⟩ := q9 h; obtain ⟨f38a, f38b, f38c⟩ := u7 ex38; simp only [go_sem, f38a, f38b, f38c]; refine And.intro (by omega) ?_; refine q8 Q16 ?_; refine j3 (b := xv_38) (by (simp only [go_sem]; done)) (fun hb_136 => ?_) (fun hb_136 => ?_)
          · replace h := x9 h hb_136; refine sg fun _ Q17 => ?_; simp only [go_sem]; refine q8 Q17 (z8 (y9 Q15 (y5 Q14 (q04 Q11 (y9 Q10 (y5 Q8 ?_)))))); simp only [go_sem]; obtain rfl := Option.some.inj h; refine j5 rfl ?_; simp only [go_sem, Le]
          · replace h := u6 h hb_136; refine j4 (y8 Q15 (q8 Q14 ?_)); simp only [go_sem]; refine w9 Q11 (⟨(m_5, i64.wrap (nv_7 + 1)), [some 0], ?_, h, Nat.lt_succ_self _⟩); simp only [go_sem, Le]
        · replace h := u6 h hb_134; simp only [bool_to_prop] at hb_134; refine q03 (q09 Q12 (q07 Q11 (d9 Q10 (q8 Q8 (sg fun _ Q18 => ?_))))); simp only [go_sem]; refine q8 Q18 (z8 ?_); simp only [go_sem]; obtain rfl := Option.some.inj h; refine j5 rfl ?_; simp only [go_sem, Le]

def q5i (s_0 : List GTime) (f_0 : GTime → Option Bool) (rec_1 : Int → Option Int) : Int → Option Int :=
 fun t8_1 =>
 (if (decide (t8_1 < (List.length s_0 : Int))) = true then j6 (idx s_0 t8_1) (fun (xv_2 : GTime) =>
 j6 (f_0 xv_2) (fun (v_2 : Bool) =>
 (if v_2 = true then some t8_1
 else rec_1 (i64.wrap (t8_1 + 1)))))
 else some (-1))
def q3f (s_0 : List GTime) (f_0 : GTime → Option Bool) : Option Int :=
 p9 (q5i s_0 f_0) rounds 0
theorem q7t (s_0 : List GTime) (f_0 : GTime → Option Bool) (g_f_0 : FuncId) (c_f_0 : List AV) (F_f_0 : q0n c_f_0 = true) (E_f_0 : q02 Tryz.prog g_f_0 = true) (H_f_0 : ∀ (x0 : GTime) (r : Bool), f_0 x0 = some r → PureS Tryz.prog g_f_0 ([.agg [.v (.int .i64 x0.D), .v (.int .i64 x0.C.a0), .v (.int .i64 x0.C.a1), .v (.int .i64 x0.C.a2), .v (.int .i64 x0.C.a3)]] ++ c_f_0) 0 (.v (.bool r))) (r : Int) (h : q3f s_0 f_0 = some r) : PureS Tryz.prog 206 [.sl 5 (enc s_0), .clo g_f_0 c_f_0] 0 (.v (.int .i64 r)) := by
 unfold PureS; refine Spec.of_vc Tryz.func206 rfl (by kernel_rfl) (by kernel_rfl) ?_; rw [q3f] at h; refine sg fun _ Q1 => ?_; simp only [go_sem]; refine q8 Q1 (q0a (by kernel_rfl) ?_); refine q0c ?_; intro _ Q2; refine sg fun _ Q3 => ?_; simp only [go_sem]; refine q8 Q3 (y7 ?_); intro _ Q4; refine q06 ?_; refine q0g (ι := Nat × Int) (fun ((_, t8_1) : Nat × Int) => (⟨0, [(0, .sl 5 (enc s_0)), (1, .clo g_f_0 c_f_0), (7, .v (.int .i64 (List.length s_0 : Int))), (8, .v (.int .i64 t8_1))], [], 0, 19⟩ : St)) (fun ((n_, t8_1) : Nat × Int) => p9 (q5i s_0 f_0) n_ t8_1 = some r) (fun p => p.1) (rounds, 0) [] ?_ h ?_
 · simp only [go_sem, Le, q0b _ F_f_0]
 ·
  rintro ⟨n_1, t8_1⟩ h _ Q5; dsimp only at h; replace h := q08 h; obtain ⟨m_1, rfl, h⟩ := h; rw [q5i] at h; refine sg fun _ Q6 => ?_; simp only [go_sem]; refine q8 Q6 (sg fun _ Q7 => ?_); refine j3 (b := (decide (t8_1 < (List.length s_0 : Int)))) (by (simp only [go_sem]; done)) (fun hb_4 => ?_) (fun hb_4 => ?_)
  ·
   replace h := x9 h hb_4; simp only [bool_to_prop] at hb_4; refine j4 (q8 Q7 (sg fun _ Q8 => ?_)); refine y7 ?_; intro _ Q9; refine sg fun _ Q10 => ?_; simp only [go_sem]; refine q8 Q10 (sg fun _ Q11 => ?_); obtain ⟨xv_2, ex2, h⟩ := q9 h; obtain ⟨f2a, f2b, f2c⟩ := u7 ex2; obtain ⟨v_2, ev_2, h⟩ := q9 h; simp only [go_sem, f2a, f2b, f2c, E_f_0]; refine And.intro (by omega) ?_; refine q0f (H_f_0 xv_2 v_2 ev_2) (by rfl) (by simp [q0n, q0y, F_f_0]) ?_; simp only [go_sem]; refine q8 Q11 ?_; refine j3 (b := v_2) (by (simp only [go_sem]; done)) (fun hb_5 => ?_) (fun hb_5 => ?_)
   · replace h := x9 h hb_5; refine sg fun _ Q12 => ?_; simp only [go_sem]; refine q8 Q12 (z8 (y9 Q9 (y5 Q8 (q04 Q5 (y9 Q4 (y5 Q2 ?_)))))); simp only [go_sem]; obtain rfl := Option.some.inj h; refine j5 rfl ?_; simp only [go_sem, Le, q0b _ F_f_0]
   · replace h := u6 h hb_5; refine j4 (y8 Q9 (q8 Q8 ?_)); simp only [go_sem]; refine w9 Q5 (⟨(m_1, i64.wrap (t8_1 + 1)), [], ?_, h, Nat.lt_succ_self _⟩); simp only [go_sem, Le, q0b _ F_f_0]
  · replace h := u6 h hb_4; simp only [bool_to_prop] at hb_4; refine q03 (q09 Q7 (q07 Q5 (d9 Q4 (q8 Q2 (sg fun _ Q13 => ?_))))); simp only [go_sem]; refine q8 Q13 (z8 ?_); simp only [go_sem]; obtain rfl := Option.some.inj h; refine j5 rfl ?_; simp only [go_sem, Le, q0b _ F_f_0]

def q40 (s_0 : List GTime) (f_0 : GTime → Option Bool) : Option Bool :=
 j6 (q3f s_0 f_0) (fun (v_0 : Int) =>
 some (decide (0 ≤ v_0)))
theorem qe0 (s_0 : List GTime) (f_0 : GTime → Option Bool) (g_f_0 : FuncId) (c_f_0 : List AV) (F_f_0 : q0n c_f_0 = true) (E_f_0 : q02 Tryz.prog g_f_0 = true) (H_f_0 : ∀ (x0 : GTime) (r : Bool), f_0 x0 = some r → PureS Tryz.prog g_f_0 ([.agg [.v (.int .i64 x0.D), .v (.int .i64 x0.C.a0), .v (.int .i64 x0.C.a1), .v (.int .i64 x0.C.a2), .v (.int .i64 x0.C.a3)]] ++ c_f_0) 0 (.v (.bool r))) (r : Bool) (h : q40 s_0 f_0 = some r) : PureS Tryz.prog 204 [.sl 5 (enc s_0), .clo g_f_0 c_f_0] 0 (.v (.bool r)) := by
 unfold PureS; refine Spec.of_vc Tryz.func204 rfl (by kernel_rfl) (by kernel_rfl) ?_; rw [q40] at h; refine sg fun _ Q1 => ?_; simp only [go_sem]; refine q8 Q1 (sg fun _ Q2 => ?_); obtain ⟨v_0, ev_0, h⟩ := q9 h; simp only [go_sem]; refine q0f (q7t s_0 f_0 g_f_0 c_f_0 F_f_0 E_f_0 H_f_0 v_0 ev_0) (by rfl) (by simp [q0n, q0y, F_f_0]) ?_; simp only [go_sem]; refine q8 Q2 (z8 ?_); simp only [go_sem]; obtain rfl := Option.some.inj h; refine j5 rfl ?_; simp only [go_sem, Le, q0b _ F_f_0]

def q51 (xv_0 : GTime) (cap_0 : GTime) : Option Bool :=
 j6 (qe9 xv_0 cap_0) (fun (v_0 : Bool) =>
 some v_0)
theorem qv4 (xv_0 : GTime) (cap_0 : GTime)  (r : Bool) (h : q51 xv_0 cap_0 = some r) : PureS Tryz.prog 205 [.agg [.v (.int .i64 xv_0.D), .v (.int .i64 xv_0.C.a0), .v (.int .i64 xv_0.C.a1), .v (.int .i64 xv_0.C.a2), .v (.int .i64 xv_0.C.a3)], .el 5 [[.v (.int .i64 cap_0.D), .v (.int .i64 cap_0.C.a0), .v (.int .i64 cap_0.C.a1), .v (.int .i64 cap_0.C.a2), .v (.int .i64 cap_0.C.a3)]] 0 0] 0 (.v (.bool r)) := by
 unfold PureS; refine Spec.of_vc Tryz.func205 rfl (by kernel_rfl) (by kernel_rfl) ?_; rw [q51] at h; refine sg fun _ Q1 => ?_; simp only [go_sem]; refine q8 Q1 (sg fun _ Q2 => ?_); obtain ⟨v_0, ev_0, h⟩ := q9 h; simp only [go_sem]; refine q0f (qt6 xv_0 cap_0 v_0 ev_0) (by rfl) (by rfl) ?_; simp only [go_sem]; refine q8 Q2 (z8 ?_); simp only [go_sem]; obtain rfl := Option.some.inj h; refine j5 rfl ?_; simp only [go_sem, Le]

def q72 (c_0 : List GTime) (t_0 : GTime) : Option Bool :=
 j6 (q40 c_0 (fun x0_ => q51 x0_ t_0)) (fun (v_0 : Bool) =>
 some v_0)
theorem qz1 (c_0 : List GTime) (t_0 : GTime)  (r : Bool) (h : q72 c_0 t_0 = some r) : PureS Tryz.prog 158 [.sl 5 (enc c_0), .agg [.v (.int .i64 t_0.D), .v (.int .i64 t_0.C.a0), .v (.int .i64 t_0.C.a1), .v (.int .i64 t_0.C.a2), .v (.int .i64 t_0.C.a3)]] 0 (.v (.bool r)) := by
 unfold PureS; refine Spec.of_vc Tryz.func158 rfl (by kernel_rfl) (by kernel_rfl) ?_; rw [q72] at h; refine sg fun _ Q1 => ?_; simp only [go_sem]; refine q8 Q1 (sg fun _ Q2 => ?_); obtain ⟨v_0, ev_0, h⟩ := q9 h; simp only [go_sem]; refine qg9 (s' := (⟨0, [(0, .sl 5 (enc c_0)), (1, .agg [.v (.int .i64 t_0.D), .v (.int .i64 t_0.C.a0), .v (.int .i64 t_0.C.a1), .v (.int .i64 t_0.C.a2), .v (.int .i64 t_0.C.a3)]), (3, .el 5 [[.v (.int .i64 t_0.D), .v (.int .i64 t_0.C.a0), .v (.int .i64 t_0.C.a1), .v (.int .i64 t_0.C.a2), .v (.int .i64 t_0.C.a3)]] 0 0), (4, .v (.bool false)), (5, .sl 5 (enc c_0)), (6, .clo 205 [.el 5 [[.v (.int .i64 t_0.D), .v (.int .i64 t_0.C.a0), .v (.int .i64 t_0.C.a1), .v (.int .i64 t_0.C.a2), .v (.int .i64 t_0.C.a3)]] 0 0])], [], 0, 8⟩ : St)) (l := []) (args' := [.sl 5 (enc c_0), .clo 205 [.el 5 [[.v (.int .i64 t_0.D), .v (.int .i64 t_0.C.a0), .v (.int .i64 t_0.C.a1), .v (.int .i64 t_0.C.a2), .v (.int .i64 t_0.C.a3)]] 0 0]]) ?_ ?_ (qe0 c_0 (fun x0_ => q51 x0_ t_0) 205 [.el 5 [[.v (.int .i64 t_0.D), .v (.int .i64 t_0.C.a0), .v (.int .i64 t_0.C.a1), .v (.int .i64 t_0.C.a2), .v (.int .i64 t_0.C.a3)]] 0 0] (by rfl) (by kernel_rfl) (fun y0 r_ e_ => qv4 y0 t_0 r_ e_) v_0 ev_0) (by rfl) (by rfl) ?_
 · simp only [go_sem, Le] <;> (repeat' apply And.intro) <;> ((try with_reducible refine x8 ?_); (simp [go_sem]; done))
 · simp only [go_sem, Le] <;> (repeat' apply And.intro) <;> ((try with_reducible refine x8 ?_); (simp [go_sem]; done))
 simp only [go_sem]; refine q8 Q2 (z8 ?_); simp only [go_sem]; obtain rfl := Option.some.inj h; refine j5 rfl ?_; simp only [go_sem, Le]

end Go.Proofs.YtbcbcdbkdljjlaaGreat
