/-
  The law in plain words: what its plain function gives is true. No condition beyond those that each theorem names.
-/
import Derived.Test.YtngeldeahafcfaaP08a
import Derived.Test.YtngeldeahafcfaaWalk0
set_option linter.unusedSimpArgs false
set_option linter.unusedVariables false
namespace Go.Proofs.Ytngeldeahafcfaa
open Go Go.RowKit
set_option linter.unusedSimpArgs false
set_option linter.unusedVariables false
/-! The reference's walk. -/
abbrev GW := GBackwashref08_walk
def StW (b0 : List UInt8) (s : GW) (b : List UInt8) : Prop := s.b = b0 ∧ s.e = 0 ∧ ∃ k : Nat, k ≤ b0.length ∧ s.at_ = k ∧ b0.drop k = b
def ErW (s : GW) (e : Int) : Prop := s.e = e ∧ e ≠ 0
section
variable {b0 : List UInt8} (hb0 : b0.length ≤ 9000)
theorem numW_er {s : GW} {e lo hi bad : Int} (h : ErW s e) : f_backwashref08_walk_num s lo hi bad = some (0, s) := by
  unfold f_backwashref08_walk_num
  rw [if_pos (by simp [h.1, h.2])]
theorem signW_er {s : GW} {e : Int} (h : ErW s e) : f_backwashref08_walk_sign s = some (0, s) := by
  unfold f_backwashref08_walk_sign
  rw [if_pos (by simp [h.1, h.2])]
theorem numW_val {s : GW} {lo hi bad : Int} {r : Int × GW} (h : f_backwashref08_walk_num s lo hi bad = some r) (he : r.2.e ≠ 0) : r.1 = 0 := by
  unfold f_backwashref08_walk_num at h
  split at h
  · cases h; rfl
  · rename_i h0
    obtain ⟨_, h⟩ := guardO_some h
    obtain ⟨v, _, h⟩ := bindO_some h
    split at h
    · cases h; rfl
    · split at h
      · cases h; rfl
      · cases h
        exact absurd (by simpa using h0) he
include hb0
theorem numW_ok {s : GW} {b : List UInt8} (lo hi : Nat) (bad : Int) (hbad : bad ≠ 0) (hlo : lo ≤ 100) (hhi : hi ≤ 2147483647) (h : StW b0 s b) : Ok (f_backwashref08_walk_num s lo hi bad) (Got (StW b0) ErW (numP lo hi bad b)) := by
  obtain ⟨sb, sa, se⟩ := s
  obtain ⟨h1, h2, k, hk, h3, rfl⟩ := h
  simp only at h1 h2 h3
  subst h1 h2 h3
  unfold f_backwashref08_walk_num
  simp only [List.take_length, Int.toNat_natCast]
  rw [if_neg (by simp)]
  refine Ok.guard (by omega) ?_
  have hs := readU_size (sb.drop k) 0 0
  have hdl : (sb.drop k).length = sb.length - k := List.length_drop
  rw [refReadUint_eq _ (by omega)]
  refine Ok.bind (Ok.some ?_)
  simp only [tupU]
  unfold numP Got
  refine Ok.iteB (fun he => ?_) (fun he => ?_)
  · have he : (readU (sb.drop k) 0 0).2.2 ≠ 0 := by simp at he; omega
    simp only [if_pos he]
    exact Ok.some ⟨rfl, by omega⟩
  · have he : (readU (sb.drop k) 0 0).2.2 = 0 := by simp at he; omega
    simp only [he, ne_eq, not_true_eq_false, if_false]
    have hw : IntKind.i64.wrap ((k : Int) + ((readU (sb.drop k) 0 0).2.1 : Int)) = ((k + (readU (sb.drop k) 0 0).2.1 : Nat) : Int) := by rw [wrap_i64 _ (by omega)]; omega
    rw [hw]
    refine Ok.iteB (fun hn => ?_) (fun hn => ?_)
    · rw [if_pos (by simp at hn; omega)]
      exact Ok.some ⟨rfl, hbad⟩
    · rw [if_neg (by simp at hn; omega)]
      refine Ok.some ⟨by simp only; rw [wrap_i64 _ (by simp at hn; omega)], rfl, rfl, _, by omega, rfl, ?_⟩
      rw [List.drop_drop]
theorem signW_ok {s : GW} {b : List UInt8} (h : StW b0 s b) : Ok (f_backwashref08_walk_sign s) (Got (StW b0) ErW (sgnP b)) := by
  obtain ⟨sb, sa, se⟩ := s
  obtain ⟨h1, h2, k, hk, h3, rfl⟩ := h
  simp only at h1 h2 h3
  subst h1 h2 h3
  unfold f_backwashref08_walk_sign
  simp only [List.take_length, Int.toNat_natCast]
  rw [if_neg (by simp)]
  refine Ok.guard (by omega) ?_
  have hs := readU_size (sb.drop k) 0 0
  have hdl : (sb.drop k).length = sb.length - k := List.length_drop
  rw [refReadInt_eq _ (by omega)]
  refine Ok.bind (Ok.some ?_)
  simp only [tupI]
  unfold sgnP Got
  refine Ok.iteB (fun he => ?_) (fun he => ?_)
  · have he : (readU (sb.drop k) 0 0).2.2 ≠ 0 := by simp at he; omega
    simp only [if_pos he]
    exact Ok.some ⟨rfl, by omega⟩
  · have he : (readU (sb.drop k) 0 0).2.2 = 0 := by simp at he; omega
    simp only [he, ne_eq, not_true_eq_false, if_false]
    have hw : IntKind.i64.wrap ((k : Int) + ((readU (sb.drop k) 0 0).2.1 : Int)) = ((k + (readU (sb.drop k) 0 0).2.1 : Nat) : Int) := by rw [wrap_i64 _ (by omega)]; omega
    rw [hw]
    refine Ok.some ⟨rfl, rfl, rfl, _, by omega, rfl, ?_⟩
    rw [List.drop_drop]
omit hb0
theorem GotW_bind {α R : Type} {p : Pa α} {b : List UInt8} {x : Option (α × GW)} {k : α × GW → Option R} {Q : R → Prop} (hx : Ok x (Got (StW b0) ErW (p b)))
    (h1 : ∀ a b' s, p b = .ok (a, b') → StW b0 s b' → Ok (k (a, s)) Q) (h2 : ∀ e a s, p b = .error e → ErW s e → Ok (k (a, s)) Q) : Ok (bindO x k) Q := by
  refine Ok.bind2 hx fun r hr => ?_
  cases hp : p b with
  | ok v =>
    obtain ⟨a, b'⟩ := v
    rw [hp] at hr
    obtain ⟨rfl, hs⟩ := hr
    exact h1 r.1 b' r.2 hp hs
  | error e =>
    rw [hp] at hr
    exact h2 e r.1 r.2 hp hr
theorem okW_st : ∀ (s : GW) b, StW b0 s b → (s.e == 0) = true := fun s b hs => by rw [hs.2.1]; rfl
theorem okW_er : ∀ (s : GW) e, ErW s e → (s.e == 0) = false := fun s e he => by simp [he.1, he.2]
/-- The end of it. -/
def finW (x : Except Int (GGraph × List UInt8)) : GGraph × Int := match x with
  | .error e => (noG, e)
  | .ok (g, r) => if r = [] then (g, 0) else (noG, 4)
theorem J5W_er {a4 a5 a8 a11} {s : GW} {e} (he : ErW s e) : f_backwashref08_Read_J5 a4 a5 a8 a11 s = some (noG, e) := by
  unfold f_backwashref08_Read_J5
  rw [if_pos (by simp [he.1, he.2]), he.1]; rfl
theorem J4W_er {a4 a5 a8 a11} {s : GW} {e} (he : ErW s e) : f_backwashref08_Read_J4 b0 a4 a5 a8 s a11 = some (noG, e) := by
  unfold f_backwashref08_Read_J4
  rw [if_neg (by simp [he.1, he.2])]
  exact J5W_er he
theorem J4W_ok {a4 a5 a8 a11} {s : GW} {b} (hs : StW b0 s b) : f_backwashref08_Read_J4 b0 a4 a5 a8 s a11 = some (finW (.ok (⟨a4, a5, a8, a11⟩, b))) := by
  obtain ⟨sb, sa, se⟩ := s
  obtain ⟨h1, h2, k, hk, h3, rfl⟩ := hs
  simp only at h1 h2 h3
  subst h1 h2 h3
  unfold f_backwashref08_Read_J4
  refine Ok.eq (Ok.iteB (fun hc => ?_) (fun hc => ?_))
  · simp at hc
    have : sb.drop k ≠ [] := fun h => by have := congrArg List.length h; simp at this; omega
    refine Ok.of_eq (J5W_er (s := ⟨sb, k, 4⟩) (e := 4) ⟨rfl, by decide⟩) ?_
    simp only [finW, if_neg this]
  · simp at hc
    have : sb.drop k = [] := List.drop_of_length_le (by omega)
    unfold f_backwashref08_Read_J5
    rw [if_neg (by simp)]
    refine Ok.some ?_
    simp only [finW, if_pos this]
theorem B6W_er {a4 a5 a8} {v : Int × GW} {n} {s : GW} {e} (he : ErW s e) : Ok (loopK (f_backwashref08_Read_B6 b0 a4 a5 a8 v) rounds (n, s, [])) (fun r => r = (noG, e)) :=
  loop_out (ok := fun s : GW => s.e == 0) (D := fun n => decide (n < v.1)) (fun rec n s a => rfl) (okW_er _ _ he) (Ok.of_eq (J4W_er he) rfl)
theorem J3W_er {a4 a5 a8} {s : GW} {e} (he : ErW s e) : Ok (f_backwashref08_Read_J3 b0 a4 a5 s a8) (fun r => r = (noG, e)) := by
  unfold f_backwashref08_Read_J3
  rw [numW_er he]
  exact Ok.bind (Ok.some (B6W_er he))
theorem B7W_er {a4 a5} {v : Int × GW} {n} {s : GW} {e} (he : ErW s e) : Ok (loopK (f_backwashref08_Read_B7 b0 a4 a5 v) rounds (n, s, [])) (fun r => r = (noG, e)) :=
  loop_out (ok := fun s : GW => s.e == 0) (D := fun n => decide (n < v.1)) (fun rec n s a => rfl) (okW_er _ _ he) (J3W_er he)
theorem J2W_er {a4 a5} {s : GW} {e} (he : ErW s e) : Ok (f_backwashref08_Read_J2 b0 s a4 a5) (fun r => r = (noG, e)) := by
  unfold f_backwashref08_Read_J2
  rw [numW_er he]
  exact Ok.bind (Ok.some (B7W_er he))
theorem natOfW {a : Int} {lo hi : Nat} (h : (lo : Int) ≤ a ∧ a ≤ hi) : a = ((a.toNat : Nat) : Int) := by omega
include hb0
theorem edgeW_item {R : Type} (s : GW) (b : List UInt8) (k : GEdge × GW → Option R) (Q : R → Prop) (hs : StW b0 s b) (hk : ∀ r, Got (StW b0) ErW (edgeP b) r → Ok (k r) Q) :
    Ok (bindO (f_backwashref08_walk_num s 0 2147483647 2) fun v1 => bindO (f_backwashref08_walk_num v1.2 0 2147483647 2) fun v2 => bindO (f_backwashref08_walk_num v2.2 0 2147483647 2) fun v3 =>
      bindO (f_backwashref08_walk_num v3.2 0 1 4) fun v4 => k (⟨v1.1, v2.1, v3.1, v4.1 == 1⟩, v4.2)) Q := by
  refine GotW_bind (numW_ok hb0 0 2147483647 2 (by decide) (by omega) (by omega) hs) (fun a1 b1 s1 h1 hs1 => ?_) (fun e a s1 h1 he => ?_)
  · refine GotW_bind (numW_ok hb0 0 2147483647 2 (by decide) (by omega) (by omega) hs1) (fun a2 b2 s2 h2 hs2 => ?_) (fun e a s2 h2 he => ?_)
    · refine GotW_bind (numW_ok hb0 0 2147483647 2 (by decide) (by omega) (by omega) hs2) (fun a3 b3 s3 h3 hs3 => ?_) (fun e a s3 h3 he => ?_)
      · refine GotW_bind (numW_ok hb0 0 1 4 (by decide) (by omega) (by omega) hs3) (fun a4 b4 s4 h4 hs4 => hk _ ?_) (fun e a s4 h4 he => hk _ ?_)
        · simp only [edgeP, bindP, h1, h2, h3, h4, retP, Got]; exact ⟨trivial, hs4⟩
        · simp only [edgeP, bindP, h1, h2, h3, h4, Got]; exact he
      · simp only [numW_er he, bindO, Option.bind_some]
        refine hk _ ?_
        simp only [edgeP, bindP, h1, h2, h3, Got]; exact he
    · simp only [numW_er he, bindO, Option.bind_some]
      refine hk _ ?_
      simp only [edgeP, bindP, h1, h2, Got]; exact he
  · simp only [numW_er he, bindO, Option.bind_some]
    refine hk _ ?_
    simp only [edgeP, bindP, h1, Got]; exact he
theorem insW_item {R : Type} (s : GW) (b : List UInt8) (k : GIns × GW → Option R) (Q : R → Prop) (hs : StW b0 s b) (hk : ∀ r, Got (StW b0) ErW (insP b) r → Ok (k r) Q) :
    Ok (bindO (f_backwashref08_walk_num s 0 2147483647 2) fun v1 => bindO (f_backwashref08_walk_sign v1.2) fun v2 => k (⟨v1.1, v2.1⟩, v2.2)) Q := by
  refine GotW_bind (numW_ok hb0 0 2147483647 2 (by decide) (by omega) (by omega) hs) (fun a1 b1 s1 h1 hs1 => ?_) (fun e a s1 h1 he => ?_)
  · refine GotW_bind (signW_ok hb0 hs1) (fun a2 b2 s2 h2 hs2 => hk _ ?_) (fun e a s2 h2 he => hk _ ?_)
    · simp only [insP, bindP, h1, h2, retP, Got]; exact ⟨trivial, hs2⟩
    · simp only [insP, bindP, h1, h2, Got]; exact he
  · simp only [signW_er he, bindO, Option.bind_some]
    refine hk _ ?_
    simp only [insP, bindP, h1, Got]; exact he
theorem nodeW_item (i : Int) (a : List GNode) (rec : Int × GW × List GNode → Option (GGraph × Int)) (s : GW) (b : List UInt8) (Q : GGraph × Int → Prop) (hs : StW b0 s b)
    (hk : ∀ r, Got (StW b0) ErW (nodeP b) r → Ok (guardO ((List.length a + List.length [r.1]) * 48 ≤ 140737488355328) (rec (IntKind.i64.wrap (i + 1), r.2, a ++ [r.1]))) Q) :
    Ok (bindO (f_backwashref08_walk_num s 0 2147483647 2) fun v1 => bindO (f_backwashref08_walk_num v1.2 0 2147483647 2) fun v2 => bindO (f_backwashref08_walk_sign v2.2) fun v3 =>
      bindO (f_backwashref08_walk_num v3.2 0 64 11) fun v4 => loopK (f_backwashref08_Read_B8 i a rec v1 v2 v3 v4) rounds (0, v4.2, [])) Q := by
  have tail : ∀ (v1 v2 v3 v4 : Int × GW) (s : GW) (e n), ErW s e → nodeP b = .error e → Ok (loopK (f_backwashref08_Read_B8 i a rec v1 v2 v3 v4) rounds (n, s, [])) Q := fun v1 v2 v3 v4 s e n he hx =>
    loop_out (ok := fun s : GW => s.e == 0) (D := fun n => decide (n < v4.1)) (fun rec n s a => rfl) (okW_er _ _ he) (hk (⟨v1.1, v2.1, v3.1, []⟩, s) (by rw [hx]; exact he))
  refine GotW_bind (numW_ok hb0 0 2147483647 2 (by decide) (by omega) (by omega) hs) (fun a1 b1 s1 h1 hs1 => ?_) (fun e a s1 h1 he => ?_)
  · refine GotW_bind (numW_ok hb0 0 2147483647 2 (by decide) (by omega) (by omega) hs1) (fun a2 b2 s2 h2 hs2 => ?_) (fun e a s2 h2 he => ?_)
    · refine GotW_bind (signW_ok hb0 hs2) (fun a3 b3 s3 h3 hs3 => ?_) (fun e a s3 h3 he => ?_)
      · refine GotW_bind (numW_ok hb0 0 64 11 (by decide) (by omega) (by omega) hs3) (fun a4 b4 s4 h4 hs4 => ?_) (fun e a s4 h4 he => ?_)
        · have hb := numP_bound h4
          have hN : a4 = ((a4.toNat : Nat) : Int) := natOfW hb
          refine loop_up (StW b0) ErW insP (fun s => s.e == 0) 16 a4.toNat (fun _ _ _ s k => bindO (f_backwashref08_walk_num s 0 2147483647 2) fun v1 => bindO (f_backwashref08_walk_sign v1.2) fun v2 => k (⟨v1.1, v2.1⟩, v2.2))
            (fun s l => guardO ((List.length a + List.length [(⟨a1, a2, a3, l⟩ : GNode)]) * 48 ≤ 140737488355328) (rec (IntKind.i64.wrap (i + 1), s, a ++ [(⟨a1, a2, a3, l⟩ : GNode)]))) Q _
            (fun rec n s a => by rw [← hN]; rfl) okW_st okW_er (by omega) (fun _ _ _ s b Q hs hk => insW_item hb0 s b _ Q hs hk) a4.toNat rounds 0 s4 b4 [] (by simp only [rounds]; omega) (by omega) (by omega) (by simp; omega) hs4
            (fun xs b' s' hx hs' => hk (⟨a1, a2, a3, [] ++ xs⟩, s') ?_) (fun e s' a' hx he => hk (⟨a1, a2, a3, a'⟩, s') ?_)
          · simp only [nodeP, bindP, h1, h2, h3, h4, hx, retP, Got, List.nil_append]; exact ⟨trivial, hs'⟩
          · simp only [nodeP, bindP, h1, h2, h3, h4, hx, Got]; exact he
        · exact tail _ _ _ _ _ e _ he (by simp only [nodeP, bindP, h1, h2, h3, h4])
      · simp only [numW_er he, signW_er he, bindO, Option.bind_some]
        exact tail _ _ _ _ _ e _ he (by simp only [nodeP, bindP, h1, h2, h3])
    · simp only [numW_er he, signW_er he, bindO, Option.bind_some]
      exact tail _ _ _ _ _ e _ he (by simp only [nodeP, bindP, h1, h2])
  · simp only [numW_er he, signW_er he, bindO, Option.bind_some]
    exact tail _ _ _ _ _ e _ he (by simp only [nodeP, bindP, h1])
theorem J3W_ok {a4 a5 a8} {s : GW} {b} (hs : StW b0 s b) : Ok (f_backwashref08_Read_J3 b0 a4 a5 s a8) (fun r => r = finW (bindP (numP 0 64 11) (fun m => bindP (repP' edgeP m.toNat) fun es => retP ⟨a4, a5, a8, es⟩) b)) := by
  unfold f_backwashref08_Read_J3
  refine GotW_bind (numW_ok hb0 0 64 11 (by decide) (by omega) (by omega) hs) (fun a1 b1 s1 h1 hs1 => ?_) (fun e a s1 h1 he => ?_)
  · have hb := numP_bound h1
    have hN : a1 = ((a1.toNat : Nat) : Int) := natOfW hb
    refine loop_up (StW b0) ErW edgeP (fun s => s.e == 0) 32 a1.toNat (fun _ _ _ s k => bindO (f_backwashref08_walk_num s 0 2147483647 2) fun v1 => bindO (f_backwashref08_walk_num v1.2 0 2147483647 2) fun v2 => bindO (f_backwashref08_walk_num v2.2 0 2147483647 2) fun v3 =>
      bindO (f_backwashref08_walk_num v3.2 0 1 4) fun v4 => k (⟨v1.1, v2.1, v3.1, v4.1 == 1⟩, v4.2)) (fun s l => f_backwashref08_Read_J4 b0 a4 a5 a8 s l) _ _ (fun rec n s a => by rw [← hN]; rfl) okW_st okW_er (by omega)
      (fun _ _ _ s b Q hs hk => edgeW_item hb0 s b _ Q hs hk) a1.toNat rounds 0 s1 b1 [] (by simp only [rounds]; omega) (by omega) (by omega) (by simp; omega) hs1 (fun xs b' s' hx hs' => ?_) (fun e s' a' hx he => ?_)
    · simp only [bindP, h1, hx, retP, List.nil_append]
      exact Ok.of_eq (J4W_ok hs') rfl
    · simp only [bindP, h1, hx]
      exact Ok.of_eq (J4W_er he) rfl
  · simp only [bindP, h1]
    exact B6W_er he
theorem J2W_ok {a4 a5} {s : GW} {b} (hs : StW b0 s b) : Ok (f_backwashref08_Read_J2 b0 s a4 a5) (fun r => r = finW (bindP (numP 0 32 11) (fun k => bindP (repP' nodeP k.toNat) fun ns => bindP (numP 0 64 11) fun m => bindP (repP' edgeP m.toNat) fun es => retP ⟨a4, a5, ns, es⟩) b)) := by
  unfold f_backwashref08_Read_J2
  refine GotW_bind (numW_ok hb0 0 32 11 (by decide) (by omega) (by omega) hs) (fun a1 b1 s1 h1 hs1 => ?_) (fun e a s1 h1 he => ?_)
  · have hb := numP_bound h1
    have hN : a1 = ((a1.toNat : Nat) : Int) := natOfW hb
    refine loop_up (StW b0) ErW nodeP (fun s => s.e == 0) 48 a1.toNat (fun i a rec s k => bindO (f_backwashref08_walk_num s 0 2147483647 2) fun v1 => bindO (f_backwashref08_walk_num v1.2 0 2147483647 2) fun v2 => bindO (f_backwashref08_walk_sign v2.2) fun v3 =>
      bindO (f_backwashref08_walk_num v3.2 0 64 11) fun v4 => loopK (f_backwashref08_Read_B8 i a rec v1 v2 v3 v4) rounds (0, v4.2, [])) (fun s l => f_backwashref08_Read_J3 b0 a4 a5 s l) _ _ (fun rec n s a => by rw [← hN]; rfl) okW_st okW_er (by omega)
      (fun i a rec s b Q hs hk => nodeW_item hb0 i a rec s b Q hs hk) a1.toNat rounds 0 s1 b1 [] (by simp only [rounds]; omega) (by omega) (by omega) (by simp; omega) hs1 (fun xs b' s' hx hs' => ?_) (fun e s' a' hx he => ?_)
    · refine (J3W_ok hb0 hs').mono fun r hr => ?_
      subst hr
      simp only [bindP, h1, hx, List.nil_append]
    · simp only [bindP, h1, hx]
      exact J3W_er he
  · simp only [bindP, h1]
    exact B7W_er he
omit hb0
/-- Behind an error the scopes are still told, as nothing. -/
theorem scopesW_er {v : Int × GW} {e : Int} {s : GW} (N : Nat) (hv : v.1 = (N : Int)) (hN : N ≤ 100) (he : ErW s e) : ∀ (n m i : Nat) (ps bs : List Int), n < m → i + n = N → ps.length + n ≤ 1000 → bs.length + n ≤ 1000 →
    Ok (loopK (f_backwashref08_Read_B9 b0 v) m ((i : Int), s, ps, bs)) (fun r => r = (noG, e))
  | n, 0, i, ps, bs, hn, _, _, _ => absurd hn (Nat.not_lt_zero _)
  | 0, m + 1, i, ps, bs, hn, hi, hp, hq => by
    unfold loopK f_backwashref08_Read_B9
    simp only
    rw [if_neg (by rw [hv]; simp; omega)]
    exact J2W_er he
  | n + 1, m + 1, i, ps, bs, hn, hi, hp, hq => by
    unfold loopK f_backwashref08_Read_B9
    simp only
    rw [if_pos (by rw [hv]; simp; omega), numW_er he]
    refine Ok.bind (Ok.some (Ok.guard (by simp; omega) ?_))
    simp only
    rw [numW_er he]
    refine Ok.bind (Ok.some (Ok.guard (by simp; omega) ?_))
    rw [wrap_succ (by omega)]
    exact scopesW_er N hv hN he n m (i + 1) _ _ (by omega) (by omega) (by simp; omega) (by simp; omega)
include hb0
theorem scopesW_ok {v : Int × GW} {Q : GGraph × Int → Prop} (N : Nat) (hv : v.1 = (N : Int)) (hN : N ≤ 100) : ∀ (n m i : Nat) (s : GW) (b : List UInt8) (ps bs : List Int), n < m → i + n = N → ps.length + n ≤ 1000 → bs.length + n ≤ 1000 → StW b0 s b →
    (∀ xs b' s', repP' scopeP n b = .ok (xs, b') → StW b0 s' b' → Ok (f_backwashref08_Read_J2 b0 s' (ps ++ xs.map (·.1)) (bs ++ xs.map (·.2))) Q) →
    (∀ e, repP' scopeP n b = .error e → Q (noG, e)) → Ok (loopK (f_backwashref08_Read_B9 b0 v) m ((i : Int), s, ps, bs)) Q
  | n, 0, i, s, b, ps, bs, hn, _, _, _, _, _, _ => absurd hn (Nat.not_lt_zero _)
  | 0, m + 1, i, s, b, ps, bs, hn, hi, hp, hq, hs, h1, h2 => by
    unfold loopK f_backwashref08_Read_B9
    simp only
    rw [if_neg (by rw [hv]; simp; omega)]
    have := h1 [] b s rfl hs
    simpa using this
  | n + 1, m + 1, i, s, b, ps, bs, hn, hi, hp, hq, hs, h1, h2 => by
    unfold loopK f_backwashref08_Read_B9
    simp only
    rw [if_pos (by rw [hv]; simp; omega), wrap_succ (by omega)]
    refine GotW_bind (numW_ok hb0 0 2147483647 2 (by decide) (by omega) (by omega) hs) (fun a1 b1 s1 g1 hs1 => ?_) (fun e a s1 g1 he => ?_)
    · refine Ok.guard (by simp; omega) ?_
      refine GotW_bind (numW_ok hb0 0 2147483647 2 (by decide) (by omega) (by omega) hs1) (fun a2 b2 s2 g2 hs2 => ?_) (fun e a s2 g2 he => ?_)
      · refine Ok.guard (by simp; omega) ?_
        have hsc : scopeP b = .ok ((a1, a2), b2) := by simp only [scopeP, bindP, g1, g2, retP]
        refine scopesW_ok N hv hN n m (i + 1) s2 b2 _ _ (by omega) (by omega) (by simp; omega) (by simp; omega) hs2 (fun xs b' s' hx hs' => ?_) (fun e hx => ?_)
        · have := h1 ((a1, a2) :: xs) b' s' (by rw [repP'_succ, hsc]; simp only [hx]) hs'
          simpa using this
        · exact h2 e (by rw [repP'_succ, hsc]; simp only [hx])
      · refine Ok.guard (by simp; omega) ?_
        have hx := h2 e (by rw [repP'_succ]; simp only [scopeP, bindP, g1, g2])
        exact (scopesW_er N hv hN he n m (i + 1) _ _ (by omega) (by omega) (by simp; omega) (by simp; omega)).mono fun r hr => by rw [hr]; exact hx
    · refine Ok.guard (by simp; omega) ?_
      simp only
      rw [numW_er he]
      refine Ok.bind (Ok.some (Ok.guard (by simp; omega) ?_))
      have hx := h2 e (by rw [repP'_succ]; simp only [scopeP, bindP, g1])
      exact (scopesW_er N hv hN he n m (i + 1) _ _ (by omega) (by omega) (by simp; omega) (by simp; omega)).mono fun r hr => by rw [hr]; exact hx
theorem J1W_ok (h3 : 3 ≤ b0.length) : Ok (f_backwashref08_Read_J1 b0) (fun r => r = bodyG (b0.drop 3)) := by
  unfold f_backwashref08_Read_J1
  have hs : StW b0 (⟨b0, 3, 0⟩ : GW) (b0.drop 3) := ⟨rfl, rfl, 3, h3, rfl, rfl⟩
  show Ok _ (fun r => r = finW (graphP (b0.drop 3)))
  obtain ⟨⟨a1, s1⟩, hv, hg⟩ := numW_ok hb0 1 8 11 (by decide) (by omega) (by omega) hs
  refine Ok.bind (Ok.of_eq hv ?_)
  cases h1 : numP 1 8 11 (b0.drop 3) with
  | ok x =>
    obtain ⟨a, b1⟩ := x
    rw [h1] at hg
    obtain ⟨rfl, hs1⟩ := hg
    have hb1 := numP_bound h1
    refine scopesW_ok hb0 a1.toNat (natOfW hb1) (by omega) (a1.toNat - 1) rounds 1 s1 b1 [-1] [0] (by simp only [rounds]; omega) (by simp only at hb1; omega) (by simp; omega) (by simp; omega) hs1 (fun xs b' s' hx hs' => ?_) (fun e hx => ?_)
    · refine (J2W_ok hb0 hs').mono fun r' hr => ?_
      subst hr
      simp only [graphP, bindP, h1, hx, List.singleton_append]
    · simp only [graphP, bindP, h1, hx, finW]
  | error e =>
    rw [h1] at hg
    have h0 : a1 = 0 := numW_val hv (by rw [hg.1]; exact hg.2)
    subst h0
    show Ok (f_backwashref08_Read_B9 b0 (0, s1) (loopK _ 18446744073709551615) (1, s1, [-1], [0])) _
    unfold f_backwashref08_Read_B9
    simp only
    rw [if_neg (by simp)]
    simp only [graphP, bindP, h1, finW]
    exact J2W_er hg
end
theorem hd_idx (k : Nat) (x : UInt8) (h : ([66, 87, 49] : List UInt8)[k]? = some x) : idx ([toB 66, toB 87, toB 49] : List UInt8) (k : Int) = some x := by
  unfold idx
  rw [if_pos (by omega), Int.toNat_natCast]
  exact h
theorem b_idx {b : List UInt8} {k : Nat} {x : UInt8} (h : b[k]? = some x) : idx b (k : Int) = some x := by
  unfold idx
  rw [if_pos (by omega), Int.toNat_natCast, h]
theorem head_end {b : List UInt8} {k : Nat} {f} (hk : k < 3) (h : b.length = k) : f_backwashref08_Read_B10 b f (k : Int) = some (noG, 3) := by
  obtain ⟨x, hx⟩ : ∃ x, ([66, 87, 49] : List UInt8)[k]? = some x := ⟨_, List.getElem?_eq_getElem (by simpa using hk)⟩
  unfold f_backwashref08_Read_B10
  rw [if_pos (by simp; omega), hd_idx k x hx]
  simp only [bindO, Option.bind_some]
  rw [if_pos (by simp; omega)]; rfl
theorem head_no {b : List UInt8} {k : Nat} {f} {x y : UInt8} (hx : ([66, 87, 49] : List UInt8)[k]? = some x) (hy : b[k]? = some y) (hne : y ≠ x) : f_backwashref08_Read_B10 b f (k : Int) = some (noG, 4) := by
  have hk := (List.getElem?_eq_some_iff.1 hx).1
  have hk2 := (List.getElem?_eq_some_iff.1 hy).1
  unfold f_backwashref08_Read_B10
  rw [if_pos (by simp at hk ⊢; omega), hd_idx k x hx, b_idx hy]
  simp only [bindO, Option.bind_some]
  rw [if_neg (by simp; omega), if_pos]
  · rfl
  · simp
    intro h; exact hne (UInt8.toNat_inj.1 (by omega))
theorem head_go {b : List UInt8} {k : Nat} {f} {x : UInt8} (hx : ([66, 87, 49] : List UInt8)[k]? = some x) (hy : b[k]? = some x) : f_backwashref08_Read_B10 b f (k : Int) = f ((k + 1 : Nat) : Int) := by
  have hk := (List.getElem?_eq_some_iff.1 hx).1
  have hk2 := (List.getElem?_eq_some_iff.1 hy).1
  simp at hk
  unfold f_backwashref08_Read_B10
  rw [if_pos (by simp; omega), hd_idx k x hx, b_idx hy]
  simp only [bindO, Option.bind_some]
  rw [if_neg (by simp; omega), if_neg (by simp), wrap_succ (by omega)]
theorem refRead_eq (b : List UInt8) (hb : b.length ≤ 9000) : f_backwashref08_Read b = some (readG b) := by
  refine Ok.eq ?_
  unfold f_backwashref08_Read
  refine Ok.iteB (fun hc => Ok.some ?_) (fun hc => ?_)
  · simp only [decide_eq_true_eq] at hc
    unfold readG
    rw [if_pos (by omega)]; rfl
  simp only [decide_eq_false_iff_not] at hc
  refine Ok.guard (by omega) (Ok.guard (by omega) (Ok.guard (by omega) ?_))
  unfold readG
  rw [if_neg (by omega)]
  have l0 : ∀ n s, loopK (f_backwashref08_Read_B10 b) (n + 1) s = f_backwashref08_Read_B10 b (loopK (f_backwashref08_Read_B10 b) n) s := fun _ _ => rfl
  have hr : rounds = 18446744073709551612 + 1 + 1 + 1 + 1 := rfl
  rw [hr]
  have e0 : (0 : Int) = ((0 : Nat) : Int) := rfl
  match b with
  | [] => exact Ok.of_eq (head_end (k := 0) (by omega) rfl) rfl
  | x :: b1 =>
    by_cases hx : x = 66
    · subst hx
      rw [l0, e0, head_go (k := 0) (x := 66) rfl rfl]
      match b1 with
      | [] => exact Ok.of_eq (head_end (k := 1) (by omega) rfl) (by simp)
      | y :: b2 =>
        by_cases hy : y = 87
        · subst hy
          rw [l0, head_go (k := 1) (x := 87) rfl rfl]
          match b2 with
          | [] => exact Ok.of_eq (head_end (k := 2) (by omega) rfl) (by simp)
          | z :: b3 =>
            by_cases hz : z = 49
            · subst hz
              rw [l0, head_go (k := 2) (x := 49) rfl rfl, l0]
              unfold f_backwashref08_Read_B10
              rw [if_neg (by simp)]
              refine (J1W_ok hb (by simp)).mono fun r hr => ?_
              rw [hr]; simp
            · exact Ok.of_eq (head_no (k := 2) (x := 49) (y := z) rfl rfl hz) (by simp [hz])
        · rw [l0, head_no (k := 1) (x := 87) (y := y) rfl rfl hy]
          refine Ok.some ?_
          match b2 with
          | [] => simp [hy]
          | z :: b3 => simp [hy]
    · rw [l0, e0, head_no (k := 0) (x := 66) (y := x) rfl rfl hx]
      refine Ok.some ?_
      match b1 with
      | [] => simp [hx]
      | [y] => simp [hx]
      | y :: z :: b3 => simp [hx]
end Go.Proofs.Ytngeldeahafcfaa

