/-
  The law in plain words: what its plain function gives is true. No condition beyond those that each theorem names.
-/
import Derived.Test.YtbcbcdbkdljjlaaWalkFS1
import Derived.Test.YtbcbcdbkdljjlaaP09e
set_option linter.unusedSimpArgs false
set_option linter.unusedVariables false
set_option linter.unusedSectionVars false
namespace Go.Proofs.Ytbcbcdbkdljjlaa
open Go Go.RowKit VA
namespace FU
/-! Which operators lead to a sink. -/
inductive Us (g : GGraph) (l : List GEdge) : Int → Prop
  | sink (n : Int) (h : inG g n) (hk : (ndI g n).Kind = 15) : Us g l n
  | step (e : GEdge) (he : e ∈ l) (h : Us g l e.To) : Us g l e.From
/-- Edges between operators that are there. -/
def InE (g : GGraph) (l : List GEdge) : Prop := ∀ e ∈ l, inG g e.From ∧ inG g e.To
theorem get_atB {b : List Bool} {i : Int} (h0 : 0 ≤ i) (h1 : i < b.length) {Q : Bool → Prop} (hq : Q (atB b i)) : Ok (idx b i) Q := Ok.idx' h0 h1 fun x hx => by rw [show x = atB b i from getD_some hx]; exact hq
section
variable {g : GGraph} {l : List GEdge} (hN : g.Nodes.length < 1000000) (hl : l.length < 1000000) (hE : InE g l)
include hN hl hE
theorem useful_ok {w : GFuse_work} (hw : w.g.Nodes = g.Nodes) (hwe : w.g.Edges = l) : Ok (f_fuse_work_useful w) fun b => b.length = g.Nodes.length ∧ ∀ i, inG g i → (atB b i = true ↔ Us g l i) := by
  unfold f_fuse_work_useful
  rw [hw]
  refine Ok.guard (by omega) ?_
  refine eachG (l := g.Nodes) (by omega) (fun i (b : List Bool) => (i, b)) (fun p => p.1) (fun _ _ => rfl) (fun i b => b.length = g.Nodes.length ∧ ∀ j : Nat, j < i → atB b j = ((nd g j).Kind == 15)) 0 (fun rec i hi b _ hI hr => ?_) (fun rec b hI => ?_) ⟨by simp, fun j hj => by omega⟩ (Nat.zero_le _)
  · obtain ⟨I1, I2⟩ := hI
    unfold f_fuse_work_useful_B4
    dsimp only
    rw [hw, if_pos (by simpa using hi)]
    refine Ok.bind (Ok.idxN hi ?_)
    rw [nd_get hi]
    refine Ok.bind (get_atB (by omega) (by omega) ?_)
    rw [iw hi (by omega)]
    refine hr _ ⟨by simpa using I1, fun j hj => ?_⟩
    unfold atB
    rw [Int.toNat_natCast, Int.toNat_natCast, List.getD_eq_getElem?_getD, List.getElem?_set]
    by_cases hji : i = j
    · subst hji
      rw [if_pos rfl, if_pos (by omega)]; rfl
    · rw [if_neg hji]
      have := I2 j (by omega)
      unfold atB at this
      rw [Int.toNat_natCast, List.getD_eq_getElem?_getD] at this
      exact this
  · obtain ⟨I1, I2⟩ := hI
    unfold f_fuse_work_useful_B4
    dsimp only
    rw [hw, if_neg (by simp)]
    unfold f_fuse_work_useful_J1
    have hsnk : ∀ i, inG g i → (ndI g i).Kind = 15 → atB b i = true := fun i hi hk => by
      have := I2 i.toNat (by have := hi.1; have := hi.2; omega)
      rw [Int.toNat_of_nonneg hi.1] at this
      rw [this]; exact beq_iff_eq.2 hk
    have hso : ∀ i, inG g i → atB b i = true → Us g l i := fun i hi h => by
      have := I2 i.toNat (by have := hi.1; have := hi.2; omega)
      rw [Int.toNat_of_nonneg hi.1, h] at this
      exact .sink i hi (by unfold ndI; simpa using this.symm)
    refine Ok.loop0 (fun p : Bool × List Bool => Sub b p.2 ∧ (∀ i, inG g i → atB p.2 i = true → Us g l i) ∧ (p.1 = false → ∀ e ∈ l, atB p.2 e.To = true → atB p.2 e.From = true)) (fun p => 2 * cf p.2 + if p.1 then 1 else 0) ?_ ⟨Sub.refl b, hso, fun h => by cases h⟩ (by
      have : cf b ≤ b.length := List.length_filter_le _ _
      simp only [rounds, if_true]; omega)
    rintro rec ⟨more, c⟩ ⟨J1, J2, J3⟩ hr
    dsimp only at J1 J2 J3 hr
    unfold f_fuse_work_useful_B2
    dsimp only
    refine Ok.iteB (fun hm => ?_) (fun hm => ?_)
    · subst hm
      refine eachG (l := l) (by omega) (fun i (p : Bool × List Bool) => (p.1, i, p.2)) (fun p => p.2.1) (fun _ _ => rfl) (fun i p => Sub c p.2 ∧ (∀ i, inG g i → atB p.2 i = true → Us g l i) ∧ (p.1 = false → p.2 = c ∧ ∀ e ∈ l.take i, atB c e.To = true → atB c e.From = true) ∧ (p.1 = true → cf p.2 < cf c)) (s0 := (false, c)) 0 (fun rec' i hi p _ hI' hr' => ?_) (fun rec' p hI' => ?_) ⟨Sub.refl c, J2, fun _ => ⟨rfl, by simp⟩, fun h => by cases h⟩ (Nat.zero_le _)
      · obtain ⟨mo, d⟩ := p
        obtain ⟨K1, K2, K3, K4⟩ := hI'
        dsimp only at K1 K2 K3 K4
        unfold f_fuse_work_useful_B3
        dsimp only
        rw [hwe, if_pos (by simpa using hi)]
        refine Ok.bind (Ok.idxN hi ?_)
        have hm := List.getElem_mem hi
        generalize hge : l[i] = e at hm
        have hee := hE e hm
        have hdl : d.length = g.Nodes.length := by rw [← K1.1, ← J1.1, I1]
        have htk : l.take (i + 1) = l.take i ++ [e] := by rw [List.take_succ_eq_append_getElem hi, hge]
        rw [iw hi (by omega)]
        refine Ok.bind (get_atB hee.2.1 (by rw [hdl]; exact hee.2.2) ?_)
        have hno : (atB d e.To = true → atB d e.From = true) → Ok (rec' (mo, ((i + 1 : Nat) : Int), d)) (fun b => b.length = g.Nodes.length ∧ ∀ i, inG g i → (atB b i = true ↔ Us g l i)) := fun hn => by
          refine hr' (mo, d) ⟨K1, K2, fun hf => ?_, K4⟩
          obtain ⟨q1, q2⟩ := K3 hf
          refine ⟨q1, fun x hx => ?_⟩
          rw [htk, List.mem_append, List.mem_singleton] at hx
          rcases hx with hx | rfl
          · exact q2 x hx
          · rw [← q1]; exact hn
        refine Ok.iteB (fun h1 => ?_) (fun h1 => hno (fun h => by rw [h1] at h; cases h))
        refine Ok.bind (get_atB hee.1.1 (by rw [hdl]; exact hee.1.2) ?_)
        refine Ok.iteB (fun h2 => ?_) (fun h2 => hno (fun _ => by simpa using h2))
        rw [Bool.not_eq_true'] at h2
        have hfl : e.From < d.length := by rw [hdl]; exact hee.1.2
        have hget : d[e.From.toNat]? = some false := by
          unfold atB at h2
          rw [List.getD_eq_getElem?_getD] at h2
          have hlt : e.From.toNat < d.length := by have := hee.1.1; omega
          rw [List.getElem?_eq_getElem hlt] at h2 ⊢
          simpa using h2
        have hcf := cf_set hget
        refine hr' (true, d.set e.From.toNat true) ⟨K1.trans (Sub.set hee.1.1 hfl), fun j hj h => ?_, (by intro h; cases h), fun _ => ?_⟩
        · rw [atB_set hee.1.1 hfl hj.1] at h
          split at h
          · rename_i hje; rw [hje]; exact .step e hm (K2 _ hee.2 h1)
          · exact K2 j hj h
        · have := K1.cf.1
          dsimp only; omega
      · obtain ⟨mo, d⟩ := p
        obtain ⟨K1, K2, K3, K4⟩ := hI'
        dsimp only at K1 K2 K3 K4
        unfold f_fuse_work_useful_B3
        dsimp only
        rw [hwe, if_neg (by simp)]
        cases mo with
        | true => exact hr (true, d) ⟨J1.trans K1, K2, fun h => by cases h⟩ (by have := K4 rfl; dsimp only; simp only [if_true]; omega)
        | false =>
          obtain ⟨q1, q2⟩ := K3 rfl
          rw [List.take_length] at q2
          subst q1
          exact hr (false, d) ⟨J1, J2, fun _ => q2⟩ (by dsimp only; simp only [if_true, Bool.false_eq_true, if_false]; omega)
    · refine Ok.some ⟨by rw [← J1.1, I1], fun i hi => ⟨J2 i hi, fun hu => ?_⟩⟩
      have hcl := J3 hm
      induction hu with
      | sink n h hk => exact J1.2 n h.1 (hsnk n h hk)
      | step e he h ih => exact hcl e he (ih (hE e he).2)
theorem reach_ok : ∀ (d : Nat) (n : Int) (a : List Bool), inG g n → a.length = g.Nodes.length → atB a n = false → cf a ≤ d → Ok (f_backwashref24_reach_s3_0_D (d + 1) g l n a) fun r => Sub a r.2 ∧ (r.1 = true → Us g l n) ∧
    (r.1 = false → atB r.2 n = true ∧ ∀ x, inG g x → atB r.2 x = true → atB a x = false → (ndI g x).Kind ≠ 15 ∧ ∀ e ∈ l, e.From = x → atB r.2 e.To = true)
  | d, n, a, hn, hal, han, hd => by
    show Ok (f_backwashref24_reach_s3_0_R (f_backwashref24_reach_s3_0_D d) g l n a) _
    unfold f_backwashref24_reach_s3_0_R
    rw [idx_nd hn]
    refine Ok.bind (Ok.some ?_)
    refine Ok.iteB (fun h1 => Ok.some ⟨Sub.refl a, fun _ => .sink n hn (by simpa using h1), fun h => by cases h⟩) (fun h1 => ?_)
    rw [beq_eq_false_iff_ne] at h1
    have hnl : n < a.length := by rw [hal]; exact hn.2
    refine Ok.bind (get_atB hn.1 hnl ?_)
    have hget : a[n.toNat]? = some false := by
      unfold atB at han
      rw [List.getD_eq_getElem?_getD] at han
      have hlt : n.toNat < a.length := by have := hn.1; omega
      rw [List.getElem?_eq_getElem hlt] at han ⊢
      simpa using han
    have hcf := cf_set hget
    have hset : ∀ j, 0 ≤ j → atB (a.set n.toNat true) j = if j = n then true else atB a j := fun j hj => atB_set hn.1 hnl hj
    refine eachG (l := l) (by omega) (fun i (b : List Bool) => (i, b)) (fun p => p.1) (fun _ _ => rfl) (fun i b => Sub (a.set n.toNat true) b ∧ (∀ x, inG g x → atB b x = true → atB (a.set n.toNat true) x = false → (ndI g x).Kind ≠ 15 ∧ ∀ e ∈ l, e.From = x → atB b e.To = true) ∧ ∀ e ∈ l.take i, e.From = n → atB b e.To = true) 0 (fun rec i hi b _ hI hr => ?_) (fun rec b hI => ?_) ⟨Sub.refl _, fun x _ h2 h3 => absurd h2 (by rw [h3]; simp), by simp⟩ (Nat.zero_le _)
    · obtain ⟨I1, I2, I3⟩ := hI
      unfold f_backwashref24_reach_s3_0_B1
      dsimp only
      rw [if_pos (by simpa using hi)]
      refine Ok.bind (Ok.idxN hi ?_)
      have hm := List.getElem_mem hi
      generalize hge : l[i] = e at hm
      have hee := hE e hm
      have hbl : b.length = g.Nodes.length := by rw [← I1.1, List.length_set, hal]
      have htk : l.take (i + 1) = l.take i ++ [e] := by rw [List.take_succ_eq_append_getElem hi, hge]
      rw [iw hi (by omega)]
      have hkeep : (e.From = n → atB b e.To = true) → Ok (rec (((i + 1 : Nat) : Int), b)) (fun r => Sub a r.2 ∧ (r.1 = true → Us g l n) ∧ (r.1 = false → atB r.2 n = true ∧ ∀ x, inG g x → atB r.2 x = true → atB a x = false → (ndI g x).Kind ≠ 15 ∧ ∀ e ∈ l, e.From = x → atB r.2 e.To = true)) := fun hk => by
        refine hr b ⟨I1, I2, fun x hx hxn => ?_⟩
        rw [htk, List.mem_append, List.mem_singleton] at hx
        rcases hx with hx | rfl
        · exact I3 x hx hxn
        · exact hk hxn
      refine Ok.iteB (fun h2 => ?_) (fun h2 => hkeep fun h => by rw [beq_eq_false_iff_ne] at h2; exact absurd h h2)
      rw [beq_iff_eq] at h2
      refine Ok.bind (get_atB hee.2.1 (by rw [hbl]; exact hee.2.2) ?_)
      refine Ok.iteB (fun h3 => hkeep fun _ => h3) (fun h3 => ?_)
      have hcb := I1.cf.1
      have hdp : ∃ d', d = d' + 1 := ⟨d - 1, by omega⟩
      obtain ⟨d', rfl⟩ := hdp
      refine Ok.bind2 (reach_ok d' e.To b hee.2 hbl h3 (by omega)) ?_
      rintro ⟨t, c⟩ ⟨J1, J2, J3⟩
      dsimp only at J1 J2 J3 ⊢
      refine Ok.guard J1.1.symm ?_
      have hac : Sub a c := (Sub.set hn.1 hnl).trans (I1.trans J1)
      refine Ok.iteB (fun h4 => Ok.some ⟨hac, fun _ => by rw [← h2]; exact .step e hm (J2 h4), fun h => by cases h⟩) (fun h4 => ?_)
      obtain ⟨J4, J5⟩ := J3 h4
      refine hr c ⟨I1.trans J1, fun x hx h5 h6 => ?_, fun x hx hxn => ?_⟩
      · cases hbx : atB b x with
        | true =>
          obtain ⟨k1, k2⟩ := I2 x hx hbx h6
          exact ⟨k1, fun e' he' hef => J1.2 _ (hE e' he').2.1 (k2 e' he' hef)⟩
        | false => exact J5 x hx h5 hbx
      · rw [htk, List.mem_append, List.mem_singleton] at hx
        rcases hx with hx | rfl
        · exact J1.2 _ (hE x (List.mem_of_mem_take hx)).2.1 (I3 x hx hxn)
        · exact J4
    · obtain ⟨I1, I2, I3⟩ := hI
      unfold f_backwashref24_reach_s3_0_B1
      dsimp only
      rw [if_neg (by simp)]
      rw [List.take_length] at I3
      refine Ok.some ⟨(Sub.set hn.1 hnl).trans I1, (fun h => by cases h), fun _ => ⟨I1.2 n hn.1 (by rw [hset n hn.1, if_pos rfl]), fun x hx h5 h6 => ?_⟩⟩
      by_cases hxn : x = n
      · subst hxn; exact ⟨h1, fun e he hef => I3 e he hef⟩
      · exact I2 x hx h5 (by rw [hset x hx.1, if_neg hxn]; exact h6)
open Classical in
theorem reach_top {n : Int} (hn : inG g n) : Ok (f_backwashref24_reach_s3_0 g l n (List.replicate g.Nodes.length false)) fun r => r.2.length = g.Nodes.length ∧ r.1 = decide (Us g l n) := by
  have hcf : cf (List.replicate g.Nodes.length false) ≤ 18446744073709551615 := by
    have : cf (List.replicate g.Nodes.length false) ≤ (List.replicate g.Nodes.length false).length := List.length_filter_le _ _
    rw [List.length_replicate] at this
    omega
  refine Ok.mono (reach_ok hN hl hE 18446744073709551615 n (List.replicate g.Nodes.length false) hn (by simp) (atB_rep _ _) hcf) ?_
  rintro ⟨t, c⟩ ⟨J1, J2, J3⟩
  dsimp only at J1 J2 J3 ⊢
  refine ⟨by rw [← J1.1]; simp, ?_⟩
  cases t with
  | true => exact (decide_eq_true (J2 rfl)).symm
  | false =>
    symm; rw [decide_eq_false_iff_not]
    obtain ⟨J4, J5⟩ := J3 rfl
    intro hu
    have : ∀ x, Us g l x → inG g x → atB c x = true → False := by
      intro x hx
      induction hx with
      | sink n h hk => exact fun hi hc => (J5 n hi hc (atB_rep _ _)).1 hk
      | step e he h ih => exact fun hi hc => ih (hE e he).2 ((J5 e.From hi hc (atB_rep _ _)).2 e he rfl)
    exact this n hu hn J4
end
end FU
end Go.Proofs.Ytbcbcdbkdljjlaa
