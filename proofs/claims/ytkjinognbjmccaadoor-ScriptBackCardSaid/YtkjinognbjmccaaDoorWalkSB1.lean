/-
  What functions of the program compute, each told as a plain function that may give nothing, with the proof that the code does so. No condition beyond those that each theorem names.
-/
import Derived.Test.YtkjinognbjmccaaDoorWalkSB0
set_option linter.unusedSimpArgs false
set_option linter.unusedVariables false
set_option linter.unusedSectionVars false
set_option maxHeartbeats 2000000
set_option maxRecDepth 100000
namespace Go.Proofs.YtkjinognbjmccaaDoor
open Go Go.RowKit
noncomputable def f_script_Parse_B1 (v_0 : List GStr) (rec_1 : Int × (List GAct) → Option ((List GAct) × Int × Int)) : Int × (List GAct) → Option ((List GAct) × Int × Int) :=
 fun (t14_1, a_1) =>
 (if (decide (t14_1 < (List.length v_0 : Int))) = true then bindO (idx v_0 t14_1) (fun (xv_6 : GStr) =>
 (if ((decide (512 ≤ t14_1)) || (decide (256 < (List.length xv_6.s : Int)))) = true then some (([] : List GAct), 11, IntKind.i64.wrap (t14_1 + 1))
 else bindO (f_strings_FieldsFunc xv_6.s (fun x0_ => f_script_Parse_1 x0_)) (fun (v_5 : List GStr) =>
 (if ((List.length v_5 : Int) == 0) = true then rec_1 (IntKind.i64.wrap (t14_1 + 1), a_1)
 else bindO (idx v_5 0) (fun (xv_7 : GStr) =>
 bindO (idx xv_7.s 0) (fun (xv_8 : UInt8) =>
 (if (((UInt8.toNat xv_8 : Nat) : Int) == 35) = true then rec_1 (IntKind.i64.wrap (t14_1 + 1), a_1)
 else bindO (f_script_act v_5) (fun (v_6 : GAct × Int) =>
 (if (!(v_6.2 == 0)) = true then some (([] : List GAct), v_6.2, IntKind.i64.wrap (t14_1 + 1))
 else guardO ((List.length a_1 + List.length ([v_6.1] : List GAct)) * 56 ≤ 140737488355328) (
 rec_1 (IntKind.i64.wrap (t14_1 + 1), (a_1 ++ ([v_6.1] : List GAct)))))))))))))
 else some (a_1, 0, 0))
noncomputable def f_script_Parse (text_0 : List UInt8) : Option ((List GAct) × Int × Int) :=
 bindO (f_strings_Split text_0 ([10] : List UInt8)) (fun (v_0 : List GStr) =>
 loopK (f_script_Parse_B1 v_0) rounds (0, []))
theorem f_script_Parse_det (text_0 : List UInt8)  (r : (List GAct) × Int × Int) (h : f_script_Parse text_0 = some r) : DetS Tryd.prog 9 [.v (.string ⟨⟨text_0⟩⟩)] [] 0 (.tup [.osl 0 7 (0) (List.length r.1), .v (.int .i64 r.2.1), .v (.int .i64 r.2.2)]) [(0, .arr 7 (enc r.1))] 1 := by
 unfold DetS
 refine Spec.of_vc Tryd.func9 rfl (by kernel_rfl) (by kernel_rfl) ?_
 rw [f_script_Parse] at h
 refine sg fun QQ1 hQ1 => ?_
 simp only [go_sem]
 refine seqQ_normal hQ1 ?_
 refine sg fun QQ2 hQ2 => ?_
 simp only [go_sem]
 refine seqQ_normal hQ2 ?_
 refine vc_join (by kernel_rfl) ?_
 refine seq_go_gen ?_
 intro QQ3 hQ3
 refine sg fun QQ4 hQ4 => ?_
 obtain ⟨v_0, ev_0, h⟩ := bindO_some h
 simp only [go_sem]
 refine call0 (f_strings_Split_ok text_0 ([10] : List UInt8) v_0 ev_0) (by rfl) (by rfl) ?_
 simp only [go_sem]
 refine seqQ_normal hQ4 ?_
 refine vc_block_gen ?_
 intro QQ5 hQ5
 refine vc_loop_of ?_
 refine loop_gen (ι := Nat × Int × (List GAct)) (fun ((_, t14_1, a_1) : Nat × Int × (List GAct)) => (⟨0, [(5, .osl 0 7 (0) (List.length a_1)), (12, .sl 1 (enc v_0)), (13, .v (.int .i64 (List.length v_0 : Int))), (14, .v (.int .i64 t14_1))], [(0, .arr 7 (enc a_1))], 1, 56⟩ : St)) (fun ((n_, t14_1, a_1) : Nat × Int × (List GAct)) => loopK (f_script_Parse_B1 v_0) n_ (t14_1, a_1) = some r) (fun p => p.1) (rounds, 0, []) [none] ?_ h ?_ --K[12,13];[]
 · simp only [go_sem, Le] <;> (repeat' apply And.intro) <;> ((try with_reducible refine TL_eq ?_); (simp [go_sem]; done))
 ·
  rintro ⟨n_1, t14_1, a_1⟩ h QQ6 hQ6
  dsimp only at h
  replace h := loopK_some h
  obtain ⟨m_1, rfl, h⟩ := h
  rw [f_script_Parse_B1] at h
  refine sg fun QQ7 hQ7 => ?_
  simp only [go_sem]
  refine seqQ_normal hQ7 ?_
  refine sg fun QQ8 hQ8 => ?_
  refine vc_cond_of (b := (decide (t14_1 < (List.length v_0 : Int)))) (by (simp only [go_sem]; done)) (fun hb_10 => ?_) (fun hb_10 => ?_)
  ·
   replace h := if_t h hb_10
   simp only [bool_to_prop] at hb_10
   refine vc_skip_of ?_
   refine seqQ_normal hQ8 ?_
   refine sg fun QQ9 hQ9 => ?_
   refine vc_block_gen ?_
   intro QQ10 hQ10
   refine sg fun QQ11 hQ11 => ?_
   obtain ⟨xv_6, exv_6, h⟩ := bindO_some h
   obtain ⟨fxv_6a, fxv_6b, fxv_6c⟩ := idx_spec exv_6
   simp only [go_sem, fxv_6a, fxv_6b, fxv_6c]
   refine And.intro (by omega) ?_
   refine seqQ_normal hQ11 ?_
   refine sg fun QQ12 hQ12 => ?_
   refine sg fun QQ13 hQ13 => ?_
   simp only [go_sem]
   refine seqQ_normal hQ13 ?_
   refine vc_cond_of (b := ((decide (512 ≤ t14_1)) || (decide (256 < (List.length xv_6.s : Int))))) (by (simp [go_sem]; done)) (fun hb_11 => ?_) (fun hb_11 => ?_)
   ·
    replace h := if_t h hb_11
    simp only [bool_to_prop] at hb_11
    refine sg fun QQ14 hQ14 => ?_
    simp only [go_sem]
    refine seqQ_normal hQ14 ?_
    refine vc_ret_of ?_
    refine seqQ_ret hQ12 ?_
    refine blockQ_ret hQ10 ?_
    refine seqQ_ret hQ9 ?_
    refine thenQ_ret hQ6 ?_
    refine blockQ_ret hQ5 ?_
    refine seqQ_ret hQ3 ?_
    simp only [go_sem]
    obtain rfl := Option.some.inj h
    refine retW_det [none] ?_
    simp only [go_sem, Le] <;> (repeat' apply And.intro) <;> ((try with_reducible refine TL_eq ?_); (simp [go_sem]; done))
   ·
    replace h := if_f h hb_11
    simp only [bool_to_prop] at hb_11
    refine vc_skip_of ?_
    refine seqQ_normal hQ12 ?_
    refine sg fun QQ15 hQ15 => ?_
    obtain ⟨v_5, ev_5, h⟩ := bindO_some h
    simp only [go_sem]
    refine call0 (f_strings_FieldsFunc_ok xv_6.s (fun x0_ => f_script_Parse_1 x0_) 18 [] (by rfl) (by kernel_rfl) (fun y0 r_ e_ => f_script_Parse_1_ok y0 r_ e_) v_5 ev_5) (by rfl) (by rfl) ?_
    simp only [go_sem]
    refine seqQ_normal hQ15 ?_
    refine sg fun QQ16 hQ16 => ?_
    refine sg fun QQ17 hQ17 => ?_
    simp only [go_sem]
    rcases hb_12 : ((List.length v_5 : Int) == 0) with _ | _
    ·
     replace h := if_f h hb_12
     obtain ⟨xv_7, exv_7, h⟩ := bindO_some h
     obtain ⟨fxv_7a, fxv_7b, fxv_7c⟩ := idx_spec exv_7
     simp only [Int.toNat_natCast, Int.reduceToNat] at fxv_7c
     obtain ⟨xv_8, exv_8, h⟩ := bindO_some h
     obtain ⟨fxv_8a, fxv_8b, fxv_8c⟩ := idx_byte exv_8
     simp only [go_sem, hb_12, fxv_7a, fxv_7b, fxv_7c, fxv_8a, fxv_8b, fxv_8c]
     refine And.intro (by omega) ?_
     refine And.intro (by omega) ?_
     refine seqQ_normal hQ17 ?_
     refine vc_cond_of (b := (((UInt8.toNat xv_8 : Nat) : Int) == 35)) (by (simp [go_sem]; (first | grind | (simp_all; done)))) (fun hb_13 => ?_) (fun hb_13 => ?_)
     ·
      replace h := if_t h hb_13
      simp only [bool_to_prop] at hb_13
      refine vc_exit_of ?_
      refine seqQ_exit hQ16 ?_
      refine blockQ_exit hQ10 ?_
      refine seqQ_normal hQ9 ?_
      simp only [go_sem]
      refine thenQ_normal hQ6 ?_
      refine ⟨(m_1, IntKind.i64.wrap (t14_1 + 1), a_1), [some 0], ?_, h, Nat.lt_succ_self _⟩
      simp only [go_sem, Le]
     ·
      replace h := if_f h hb_13
      simp only [bool_to_prop] at hb_13
      refine vc_skip_of ?_
      refine seqQ_normal hQ16 ?_
      refine sg fun QQ18 hQ18 => ?_
      obtain ⟨v_6, ev_6, h⟩ := bindO_some h
      simp only [go_sem]
      refine call0 (f_script_act_ok v_5 v_6 ev_6) (by rfl) (by rfl) ?_
      simp only [go_sem]
      refine seqQ_normal hQ18 ?_
      refine sg fun QQ19 hQ19 => ?_
      refine sg fun QQ20 hQ20 => ?_
      simp only [go_sem]
      refine seqQ_normal hQ20 ?_
      refine vc_cond_of (b := (!(v_6.2 == 0))) (by (simp only [go_sem]; done)) (fun hb_14 => ?_) (fun hb_14 => ?_)
      ·
       replace h := if_t h hb_14
       simp only [bool_to_prop] at hb_14
       refine sg fun QQ21 hQ21 => ?_
       simp only [go_sem]
       refine seqQ_normal hQ21 ?_
       refine vc_ret_of ?_
       refine seqQ_ret hQ19 ?_
       refine blockQ_ret hQ10 ?_
       refine seqQ_ret hQ9 ?_
       refine thenQ_ret hQ6 ?_
       refine blockQ_ret hQ5 ?_
       refine seqQ_ret hQ3 ?_
       simp only [go_sem]
       obtain rfl := Option.some.inj h
       refine retW_det [none] ?_
       simp only [go_sem, Le] <;> (repeat' apply And.intro) <;> ((try with_reducible refine TL_eq ?_); (simp [go_sem]; done))
      ·
       replace h := if_f h hb_14
       simp only [bool_to_prop] at hb_14
       refine vc_skip_of ?_
       refine seqQ_normal hQ19 ?_
       have rf_3 : [[.v (.int .i64 v_6.1.Kind), .v (.int .i64 v_6.1.A), .v (.int .i64 v_6.1.B), .v (.int .i64 v_6.1.C), .v (.int .i64 v_6.1.D), .v (.int .i64 v_6.1.Rec.K), .v (.int .i64 v_6.1.Rec.V)]] = enc ([v_6.1] : List GAct) := by rfl
       obtain ⟨g_2, h⟩ := guardO_some h
       simp only [List.length_cons, List.length_nil, Nat.zero_add, List.length_append] at g_2
       have rf_4 : enc a_1 ++ [[.v (.int .i64 v_6.1.Kind), .v (.int .i64 v_6.1.A), .v (.int .i64 v_6.1.B), .v (.int .i64 v_6.1.C), .v (.int .i64 v_6.1.D), .v (.int .i64 v_6.1.Rec.K), .v (.int .i64 v_6.1.Rec.V)]] = enc (a_1 ++ ([v_6.1] : List GAct)) := by exact (enc_app a_1 ([v_6.1] : List GAct)).symm
       simp only [go_sem, g_2, rf_4]
       simp only [rf_3]
       refine blockQ_normal hQ10 ?_
       refine seqQ_normal hQ9 ?_
       simp only [go_sem]
       refine thenQ_normal hQ6 ?_
       refine ⟨(m_1, IntKind.i64.wrap (t14_1 + 1), (a_1 ++ ([v_6.1] : List GAct))), [some 3], ?_, h, Nat.lt_succ_self _⟩
       simp only [go_sem, Le] <;> (repeat' apply And.intro) <;> ((try with_reducible refine TL_eq ?_); (simp [go_sem]; done))
    ·
     replace h := if_t h hb_12
     simp only [go_sem, hb_12]
     refine seqQ_normal hQ17 ?_
     refine vc_cond_t (by (simp only [go_sem]; done)) ?_
     refine vc_exit_of ?_
     refine seqQ_exit hQ16 ?_
     refine blockQ_exit hQ10 ?_
     refine seqQ_normal hQ9 ?_
     simp only [go_sem]
     refine thenQ_normal hQ6 ?_
     refine ⟨(m_1, IntKind.i64.wrap (t14_1 + 1), a_1), [some 0], ?_, h, Nat.lt_succ_self _⟩
     simp only [go_sem, Le]
  ·
   replace h := if_f h hb_10
   simp only [bool_to_prop] at hb_10
   refine vc_exit_of ?_
   refine seqQ_exit hQ8 ?_
   refine thenQ_exit hQ6 ?_
   refine blockQ_exit hQ5 ?_
   refine seqQ_normal hQ3 ?_
   refine sg fun QQ22 hQ22 => ?_
   simp only [go_sem]
   refine seqQ_normal hQ22 ?_
   refine vc_ret_of ?_
   simp only [go_sem]
   obtain rfl := Option.some.inj h
   refine retW_det [some 0] ?_
   simp only [go_sem, Le]
noncomputable def f_backwashlaw21_awake  : Option Bool :=
 bindO (f_script_Parse ([102, 101, 101, 100, 32, 48, 32, 51, 32, 55, 32, 45, 53, 10, 35, 32, 120, 10, 116, 111, 107, 101, 110] : List UInt8)) (fun (v_0 : (List GAct) × Int × Int) =>
 bindO (f_script_Show ([(⟨5, 2, 0, 1, 0, (⟨0, 0⟩ : GRec)⟩ : GAct)] : List GAct)) (fun (v_1 : (List UInt8) × Int) =>
 (if ((v_0.2.1 == 0) && ((List.length v_0.1 : Int) == 2)) = true then bindO (idx v_0.1 0) (fun (xv_0 : GAct) =>
 some (((xv_0.Rec.V == (-5)) && (v_1.2 == 0)) && (v_1.1 == ([109, 111, 118, 101, 32, 50, 32, 48, 32, 49, 32, 48, 10] : List UInt8))))
 else some false)))
theorem f_backwashlaw21_awake_ok   (r : Bool) (h : f_backwashlaw21_awake  = some r) : PureS Tryd.prog 6 [] 0 (.v (.bool r)) := by
 unfold PureS
 refine Spec.of_vc Tryd.func6 rfl (by kernel_rfl) (by kernel_rfl) ?_
 rw [f_backwashlaw21_awake] at h
 refine sg fun QQ1 hQ1 => ?_
 simp only [go_sem]
 refine seqQ_normal hQ1 ?_
 refine sg fun QQ2 hQ2 => ?_
 obtain ⟨v_0, ev_0, h⟩ := bindO_some h
 simp only [go_sem]
 refine callD [] (f_script_Parse_det ([102, 101, 101, 100, 32, 48, 32, 51, 32, 55, 32, 45, 53, 10, 35, 32, 120, 10, 116, 111, 107, 101, 110] : List UInt8) v_0 ev_0) (by simp) rfl trivial rfl rfl rfl rfl ?_
 simp only [go_sem]
 refine seqQ_normal hQ2 ?_
 refine sg fun QQ3 hQ3 => ?_
 have rf_0 : [[.v (.int .i64 5), .v (.int .i64 2), .v (.int .i64 0), .v (.int .i64 1), .v (.int .i64 0), .v (.int .i64 0), .v (.int .i64 0)]] = enc ([(⟨5, 2, 0, 1, 0, (⟨0, 0⟩ : GRec)⟩ : GAct)] : List GAct) := by rfl
 obtain ⟨v_1, ev_1, h⟩ := bindO_some h
 simp only [go_sem]
 simp only [rf_0]
 refine callB (s' := (⟨0, [(1, .osl 0 7 (0) (List.length v_0.1)), (2, .v (.int .i64 v_0.2.1))], [(0, .arr 7 (enc v_0.1))], 1, 40⟩ : St)) (l := [some 0]) (args' := [.sl 7 (enc ([(⟨5, 2, 0, 1, 0, (⟨0, 0⟩ : GRec)⟩ : GAct)] : List GAct))]) ?_ ?_ (f_script_Show_ok ([(⟨5, 2, 0, 1, 0, (⟨0, 0⟩ : GRec)⟩ : GAct)] : List GAct) v_1 ev_1) (by rfl) (by rfl) ?_
 · simp only [go_sem, Le]
 · simp only [go_sem, Le] <;> (repeat' apply And.intro) <;> ((try with_reducible refine TL_eq ?_); (simp [go_sem]; done))
 simp only [go_sem]
 refine seqQ_normal hQ3 ?_
 refine sg fun QQ4 hQ4 => ?_
 simp only [go_sem]
 rcases hb_0 : ((v_0.2.1 == 0) && ((List.length v_0.1 : Int) == 2)) with _ | _
 ·
  replace h := if_f h hb_0
  simp only [go_sem, hb_0]
  refine seqQ_normal hQ4 ?_
  refine vc_ret_of ?_
  simp only [go_sem]
  obtain rfl := Option.some.inj h
  refine retW_pure rfl ?_
  simp only [go_sem, Le]
 ·
  replace h := if_t h hb_0
  obtain ⟨xv_0, exv_0, h⟩ := bindO_some h
  obtain ⟨fxv_0a, fxv_0b, fxv_0c⟩ := idx_spec exv_0
  simp only [Int.toNat_natCast, Int.reduceToNat] at fxv_0c
  simp only [go_sem, hb_0, fxv_0a, fxv_0b, fxv_0c]
  refine And.intro (by omega) ?_
  refine seqQ_normal hQ4 ?_
  refine vc_ret_of ?_
  simp only [go_sem]
  obtain rfl := Option.some.inj h
  refine retW_pure rfl ?_
  simp only [go_sem, Le]

noncomputable def f_backwashlaw21_ScriptBack_J1 (text_0 : List UInt8) : Option Bool :=
 bindO (f_script_Parse (List.drop (Int.toNat 0) (List.take (Int.toNat (min (List.length text_0 : Int) 4000)) text_0))) (fun (v_4 : (List GAct) × Int × Int) =>
 (if (!(v_4.2.1 == 0)) = true then some ((List.length v_4.1 : Int) == 0)
 else bindO (f_script_Show v_4.1) (fun (v_5 : (List UInt8) × Int) =>
 bindO (f_script_Parse v_5.1) (fun (v_6 : (List GAct) × Int × Int) =>
 (if ((v_5.2 == 11) && (decide (511 < (List.length v_4.1 : Int)))) = true then some true
 else (if ((v_5.2 == 0) && (v_6.2.1 == 0)) = true then bindO (f_backwashref21_Same v_4.1 v_6.1) (fun (v_7 : Bool) =>
 some v_7)
 else some false))))))
noncomputable def f_backwashlaw21_ScriptBack (l_0 : List GAct) (text_0 : List UInt8) : Option Bool :=
 bindO (f_backwashlaw21_awake) (fun (v_0 : Bool) =>
 (if (!v_0) = true then some false
 else guardO (0 ≤ 0 ∧ 0 ≤ (min (List.length text_0 : Int) 4000) ∧ (min (List.length text_0 : Int) 4000) ≤ (List.length text_0 : Int)) (
 (if (decide (600 < (List.length l_0 : Int))) = true then some true
 else bindO (f_script_Show l_0) (fun (v_8 : (List UInt8) × Int) =>
 (if (v_8.2 == 0) = true then bindO (f_script_Parse v_8.1) (fun (v_9 : (List GAct) × Int × Int) =>
 (if ((!(v_9.2.1 == 0)) || (!(v_9.2.2 == 0))) = true then some false
 else bindO (f_backwashref21_Same l_0 v_9.1) (fun (v_10 : Bool) =>
 (if (!v_10) = true then some false
 else f_backwashlaw21_ScriptBack_J1 text_0))))
 else f_backwashlaw21_ScriptBack_J1 text_0))))))
theorem f_backwashlaw21_ScriptBack_ok (l_0 : List GAct) (text_0 : List UInt8)  (r : Bool) (h : f_backwashlaw21_ScriptBack l_0 text_0 = some r) : PureS Tryd.prog 4 [.sl 7 (enc l_0), .v (.string ⟨⟨text_0⟩⟩)] 0 (.v (.bool r)) := by
 unfold PureS
 refine Spec.of_vc Tryd.func4 rfl (by kernel_rfl) (by kernel_rfl) ?_
 rw [f_backwashlaw21_ScriptBack] at h
 refine sg fun QQ1 hQ1 => ?_
 simp only [go_sem]
 refine seqQ_normal hQ1 ?_
 refine sg fun QQ2 hQ2 => ?_
 refine sg fun QQ3 hQ3 => ?_
 obtain ⟨v_0, ev_0, h⟩ := bindO_some h
 simp only [go_sem]
 refine call0 (f_backwashlaw21_awake_ok v_0 ev_0) (by rfl) (by rfl) ?_
 simp only [go_sem]
 refine seqQ_normal hQ3 ?_
 refine vc_cond_of (b := (!v_0)) (by (simp only [go_sem]; done)) (fun hb_0 => ?_) (fun hb_0 => ?_)
 ·
  replace h := if_t h hb_0
  simp only [bool_to_prop] at hb_0
  refine sg fun QQ4 hQ4 => ?_
  simp only [go_sem]
  refine seqQ_normal hQ4 ?_
  refine vc_ret_of ?_
  refine seqQ_ret hQ2 ?_
  simp only [go_sem]
  obtain rfl := Option.some.inj h
  refine retW_pure rfl ?_
  simp only [go_sem, Le]
 ·
  replace h := if_f h hb_0
  simp only [bool_to_prop] at hb_0
  refine vc_skip_of ?_
  refine seqQ_normal hQ2 ?_
  refine sg fun QQ5 hQ5 => ?_
  obtain ⟨g_0, h⟩ := guardO_some h
  simp only [go_sem, g_0]
  refine And.intro (by first | omega | (intros; simp_all; done)) ?_
  refine And.intro (by first | omega | (intros; simp_all; done)) ?_
  refine seqQ_normal hQ5 ?_
  refine sg fun QQ6 hQ6 => ?_
  refine sg fun QQ7 hQ7 => ?_
  simp only [go_sem]
  refine seqQ_normal hQ7 ?_
  refine vc_cond_of (b := (decide (600 < (List.length l_0 : Int)))) (by (simp only [go_sem]; done)) (fun hb_1 => ?_) (fun hb_1 => ?_)
  ·
   replace h := if_t h hb_1
   simp only [bool_to_prop] at hb_1
   refine sg fun QQ8 hQ8 => ?_
   simp only [go_sem]
   refine seqQ_normal hQ8 ?_
   refine vc_ret_of ?_
   refine seqQ_ret hQ6 ?_
   simp only [go_sem]
   obtain rfl := Option.some.inj h
   refine retW_pure rfl ?_
   simp only [go_sem, Le]
  ·
   replace h := if_f h hb_1
   simp only [bool_to_prop] at hb_1
   refine vc_skip_of ?_
   refine seqQ_normal hQ6 ?_
   refine vc_join (by kernel_rfl) ?_
   refine seq_cut_gen (ι := Unit) (fun (_ : Unit) => (⟨0, [(1, .v (.string ⟨⟨(List.drop (Int.toNat 0) (List.take (Int.toNat (min (List.length text_0 : Int) 4000)) text_0))⟩⟩))], [], 0, 95⟩ : St)) (fun (_ : Unit) => f_backwashlaw21_ScriptBack_J1 text_0 = some r) ?_ ?_ --K[1];[]
   ·
    intro QQ16 hQ16
    refine sg fun QQ17 hQ17 => ?_
    obtain ⟨v_8, ev_8, h⟩ := bindO_some h
    simp only [go_sem]
    refine call0 (f_script_Show_ok l_0 v_8 ev_8) (by rfl) (by rfl) ?_
    simp only [go_sem]
    refine seqQ_normal hQ17 ?_
    refine sg fun QQ18 hQ18 => ?_
    simp only [go_sem]
    refine seqQ_normal hQ18 ?_
    refine vc_cond_of (b := (v_8.2 == 0)) (by (simp only [go_sem]; done)) (fun hb_8 => ?_) (fun hb_8 => ?_)
    ·
     replace h := if_t h hb_8
     simp only [bool_to_prop] at hb_8
     refine sg fun QQ19 hQ19 => ?_
     obtain ⟨v_9, ev_9, h⟩ := bindO_some h
     simp only [go_sem]
     refine callD [] (f_script_Parse_det v_8.1 v_9 ev_9) (by simp) rfl trivial rfl rfl rfl rfl ?_
     simp only [go_sem]
     refine seqQ_normal hQ19 ?_
     refine sg fun QQ20 hQ20 => ?_
     simp only [go_sem]
     rcases hb_9 : ((!(v_9.2.1 == 0)) || (!(v_9.2.2 == 0))) with _ | _
     ·
      replace h := if_f h hb_9
      obtain ⟨v_10, ev_10, h⟩ := bindO_some h
      simp only [go_sem, hb_9]
      refine callB (s' := (⟨0, [(1, .v (.string ⟨⟨(List.drop (Int.toNat 0) (List.take (Int.toNat (min (List.length text_0 : Int) 4000)) text_0))⟩⟩)), (47, .v (.bool false))], [], 0, 95⟩ : St)) (l := []) (args' := [.sl 7 (enc l_0), .sl 7 (enc v_9.1)]) ?_ ?_ (f_backwashref21_Same_ok l_0 v_9.1 v_10 ev_10) (by rfl) (by rfl) ?_
      · simp only [go_sem, Le] <;> (repeat' apply And.intro) <;> ((try with_reducible refine TL_eq ?_); rfl)
      · simp only [go_sem, Le] <;> (repeat' apply And.intro) <;> ((try with_reducible refine TL_eq ?_); (simp [go_sem]; done))
      simp only [go_sem]
      refine seqQ_normal hQ20 ?_
      refine vc_cond_of (b := (!v_10)) (by (simp only [go_sem]; done)) (fun hb_10 => ?_) (fun hb_10 => ?_)
      ·
       replace h := if_t h hb_10
       simp only [bool_to_prop] at hb_10
       refine sg fun QQ21 hQ21 => ?_
       simp only [go_sem]
       refine seqQ_normal hQ21 ?_
       refine vc_ret_of ?_
       refine thenQ_ret hQ16 ?_
       simp only [go_sem]
       obtain rfl := Option.some.inj h
       refine retW_pure rfl ?_
       simp only [go_sem, Le]
      ·
       replace h := if_f h hb_10
       simp only [bool_to_prop] at hb_10
       refine vc_skip_of ?_
       refine thenQ_normal hQ16 ?_
       refine ⟨(), [], ?_, h⟩
       simp only [go_sem, Le] <;> (repeat' apply And.intro) <;> ((try with_reducible refine TL_eq ?_); rfl)
     ·
      replace h := if_t h hb_9
      simp only [go_sem, hb_9]
      refine seqQ_normal hQ20 ?_
      refine vc_cond_t (by (simp only [go_sem]; done)) ?_
      refine sg fun QQ22 hQ22 => ?_
      simp only [go_sem]
      refine seqQ_normal hQ22 ?_
      refine vc_ret_of ?_
      refine thenQ_ret hQ16 ?_
      simp only [go_sem]
      obtain rfl := Option.some.inj h
      refine retW_pure rfl ?_
      simp only [go_sem, Le]
    ·
     replace h := if_f h hb_8
     simp only [bool_to_prop] at hb_8
     refine vc_skip_of ?_
     refine thenQ_normal hQ16 ?_
     refine ⟨(), [], ?_, h⟩
     simp only [go_sem, Le] <;> (repeat' apply And.intro) <;> ((try with_reducible refine TL_eq ?_); rfl)
   ·
    rintro ⟨⟩ h
    try dsimp only at h
    rw [f_backwashlaw21_ScriptBack_J1] at h
    refine sg fun QQ9 hQ9 => ?_
    obtain ⟨v_4, ev_4, h⟩ := bindO_some h
    simp only [go_sem]
    refine callD [] (f_script_Parse_det (List.drop (Int.toNat 0) (List.take (Int.toNat (min (List.length text_0 : Int) 4000)) text_0)) v_4 ev_4) (by simp) rfl trivial rfl rfl rfl rfl ?_
    simp only [go_sem]
    refine seqQ_normal hQ9 ?_
    refine sg fun QQ10 hQ10 => ?_
    refine sg fun QQ11 hQ11 => ?_
    simp only [go_sem]
    refine seqQ_normal hQ11 ?_
    refine vc_cond_of (b := (!(v_4.2.1 == 0))) (by (simp only [go_sem]; done)) (fun hb_5 => ?_) (fun hb_5 => ?_)
    ·
     replace h := if_t h hb_5
     simp only [bool_to_prop] at hb_5
     refine sg fun QQ12 hQ12 => ?_
     simp only [go_sem]
     refine seqQ_normal hQ12 ?_
     refine vc_ret_of ?_
     refine seqQ_ret hQ10 ?_
     simp only [go_sem]
     obtain rfl := Option.some.inj h
     refine retW_pure rfl ?_
     simp only [go_sem, Le]
    ·
     replace h := if_f h hb_5
     simp only [bool_to_prop] at hb_5
     refine vc_skip_of ?_
     refine seqQ_normal hQ10 ?_
     refine sg fun QQ13 hQ13 => ?_
     obtain ⟨v_5, ev_5, h⟩ := bindO_some h
     simp only [go_sem]
     refine callB (s' := (⟨0, [(10, .sl 7 (enc v_4.1))], [], 0, 95⟩ : St)) (l := []) (args' := [.sl 7 (enc v_4.1)]) ?_ ?_ (f_script_Show_ok v_4.1 v_5 ev_5) (by rfl) (by rfl) ?_
     · simp only [go_sem, Le] <;> (repeat' apply And.intro) <;> ((try with_reducible refine TL_eq ?_); (simp [go_sem]; done))
     · simp only [go_sem, Le] <;> (repeat' apply And.intro) <;> ((try with_reducible refine TL_eq ?_); (simp [go_sem]; done))
     simp only [go_sem]
     refine seqQ_normal hQ13 ?_
     refine sg fun QQ14 hQ14 => ?_
     obtain ⟨v_6, ev_6, h⟩ := bindO_some h
     simp only [go_sem]
     refine callD [] (f_script_Parse_det v_5.1 v_6 ev_6) (by simp) rfl trivial rfl rfl rfl rfl ?_
     simp only [go_sem]
     refine seqQ_normal hQ14 ?_
     refine sg fun QQ15 hQ15 => ?_
     simp only [go_sem]
     refine And.intro (by (intros; (repeat' apply And.intro) <;> first | assumption | omega)) ?_
     rcases hb_6 : ((v_5.2 == 11) && (decide (511 < (List.length v_4.1 : Int)))) with _ | _
     ·
      replace h := if_f h hb_6
      simp only [go_sem, hb_6]
      rcases hb_7 : ((v_5.2 == 0) && (v_6.2.1 == 0)) with _ | _
      ·
       replace h := if_f h hb_7
       simp only [go_sem, hb_7]
       refine seqQ_normal hQ15 ?_
       refine vc_ret_of ?_
       simp only [go_sem]
       obtain rfl := Option.some.inj h
       refine retW_pure rfl ?_
       simp only [go_sem, Le]
      ·
       replace h := if_t h hb_7
       obtain ⟨v_7, ev_7, h⟩ := bindO_some h
       simp only [go_sem, hb_7]
       refine callB (s' := (⟨0, [(82, .v (.bool false)), (89, .v (.bool true))], [], 0, 95⟩ : St)) (l := []) (args' := [.sl 7 (enc v_4.1), .sl 7 (enc v_6.1)]) ?_ ?_ (f_backwashref21_Same_ok v_4.1 v_6.1 v_7 ev_7) (by rfl) (by rfl) ?_
       · simp only [go_sem, Le]
       · simp only [go_sem, Le] <;> (repeat' apply And.intro) <;> ((try with_reducible refine TL_eq ?_); (simp [go_sem]; done))
       simp only [go_sem]
       refine seqQ_normal hQ15 ?_
       refine vc_ret_of ?_
       simp only [go_sem]
       obtain rfl := Option.some.inj h
       refine retW_pure rfl ?_
       simp only [go_sem, Le]
     ·
      replace h := if_t h hb_6
      simp only [go_sem, hb_6]
      refine seqQ_normal hQ15 ?_
      refine vc_ret_of ?_
      simp only [go_sem]
      obtain rfl := Option.some.inj h
      refine retW_pure rfl ?_
      simp only [go_sem, Le]

end Go.Proofs.YtkjinognbjmccaaDoor
