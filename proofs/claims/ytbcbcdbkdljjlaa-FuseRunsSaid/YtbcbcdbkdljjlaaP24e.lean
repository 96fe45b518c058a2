/-
  The law in plain words: what its plain function gives is true. No condition beyond those that each theorem names.
-/
import Derived.Test.YtbcbcdbkdljjlaaWalkFS1
import Derived.Test.YtbcbcdbkdljjlaaWalkFS2
import Derived.Test.YtbcbcdbkdljjlaaWalkFS0
import Derived.Test.YtbcbcdbkdljjlaaP24d
set_option linter.unusedSimpArgs false
set_option linter.unusedVariables false
set_option linter.unusedSectionVars false
namespace Go.Proofs.Ytbcbcdbkdljjlaa
open Go Go.RowKit VA
namespace FU
open Classical
/-! The program's steps, and the document's. -/
theorem range_at {p : Nat → Bool} {N i : Nat} (h : ∀ j < i, p j = false) (hi : i < N) (hp : p i = true) : (List.range N).find? p = some i := by
  rw [List.find?_range_eq_some]
  exact ⟨hp, List.mem_range.2 hi, fun j hj => by simp [h j hj]⟩
theorem range_end {p : Nat → Bool} {N : Nat} (h : ∀ j < N, p j = false) : (List.range N).find? p = none := by
  rw [List.find?_eq_none]; intro x hx; simp [h x (List.mem_range.1 hx)]
theorem src_idx (l : List GEdge) (n : Nat) : (∃ i, ∃ h : i < l.length, idxInt (fun e : GEdge => e.To == (n : Int)) l = (i : Int) ∧ src l n = some l[i]) ∨ idxInt (fun e : GEdge => e.To == (n : Int)) l = -1 ∧ src l n = none := find_idx _
theorem Index_eq {s : List GEdge} {f : GEdge → Option Bool} {p : GEdge → Bool} (hl : s.length < 9223372036854775808) (hf : ∀ x ∈ s, f x = some (p x)) : f_slices_IndexFunc_Edge s f = some (idxInt p s) := gIndexFunc_eq hl hf
section
variable {g : GGraph} {l : List GEdge} {gone : List Bool} (I : Inv g l gone)
include I
theorem source_eq {w : GFuse_work} (hw : w.g.Edges = l) (n : Nat) : f_fuse_work_source w n = some (ownE l n, (src l n).isSome) := by
  have hl := I.ll
  unfold f_fuse_work_source
  rw [hw, Index_eq (f := fun x0_ => f_fuse_work_source_1 x0_ (n : Int)) (p := fun e => e.To == (n : Int)) (by omega) (fun x _ => rfl)]
  refine Ok.eq (Ok.bind (Ok.some ?_))
  unfold ownE
  rcases src_idx l n with ⟨i, hi, h1, h2⟩ | ⟨h1, h2⟩
  · rw [h1, h2, if_neg (by simp)]
    exact Ok.bind (Ok.idxN hi (Ok.some rfl))
  · rw [h1, h2, if_pos (by decide)]
    exact Ok.some rfl
theorem nothing_eq {w : GFuse_work} (hwn : w.g.Nodes = g.Nodes) (hw : w.g.Edges = l) {n : Nat} (hn : n < g.Nodes.length) : f_fuse_work_nothing w n = some (noth g l n) := by
  have hJ : Ok (f_fuse_work_nothing_J1 w n (nd g n) true) (fun r => r = match src l n with
      | some e => ((ndI g e.From).Kind == 6 || (ndI g e.From).Kind == 7 || (ndI g e.From).Kind == 14) || ((nd g n).Kind == 8 && (ndI g e.From).Kind == 8)
      | none => false) := by
    unfold f_fuse_work_nothing_J1
    rw [if_pos rfl, source_eq I hw, hwn]
    refine Ok.bind (Ok.some ?_)
    have hin : inG g (ownE l n).From := by
      unfold ownE
      cases hs : src l n with
      | none => have := I.G.nl; exact ⟨by simp, by simp; omega⟩
      | some e => exact (I.inE e (List.mem_of_find?_eq_some hs)).1
    rw [idx_nd hin]
    refine Ok.bind (Ok.some ?_)
    unfold ownE
    cases hs : src l n with
    | none => exact Ok.some rfl
    | some e => exact Ok.bind (Ok.some (Ok.some rfl))
  unfold f_fuse_work_nothing
  rw [hwn]
  refine Ok.eq (Ok.bind (Ok.idxN hn ?_))
  rw [nd_get hn]
  unfold noth
  by_cases h1 : (nd g n).Kind = 13
  · rw [if_pos h1]; rw [if_pos (by simpa using h1)]; exact Ok.some rfl
  rw [if_neg h1, if_neg (by simpa using h1)]
  by_cases h2 : (nd g n).Kind = 3
  · rw [if_pos h2, if_pos (by simpa using h2)]; exact Ok.some rfl
  rw [if_neg h2, if_neg (by simpa using h2)]
  by_cases h3 : (nd g n).Kind = 4
  · rw [if_pos h3, if_pos (by simpa using h3)]; exact Ok.some rfl
  rw [if_neg h3, if_neg (by simpa using h3)]
  by_cases h4 : (nd g n).Kind = 6
  · rw [if_pos (show (nd g n).Kind = 6 ∨ (nd g n).Kind = 8 from .inl h4), if_pos (show ((nd g n).Kind == 6) = true from beq_iff_eq.2 h4), beq_iff_eq.2 h4]; exact hJ
  rw [if_neg (by simpa using h4)]
  by_cases h5 : (nd g n).Kind = 8
  · rw [if_pos (show (nd g n).Kind = 6 ∨ (nd g n).Kind = 8 from .inr h5), beq_iff_eq.2 h5]
    have : ((nd g n).Kind == 8) = true := beq_iff_eq.2 h5
    rw [this] at hJ
    exact hJ
  · rw [if_neg (by omega), beq_eq_false_iff_ne.2 h5]
    exact Ok.some rfl
theorem from_eq (n : Nat) : f_backwashref24_from l n = some (idxInt (fun e : GEdge => e.To == (n : Int)) l) := by
  have hl := I.ll
  unfold f_backwashref24_from
  refine Ok.eq (Ok.each1 (l := l) (by omega) (fun i => ∀ x ∈ l.take i, (x.To == (n : Int)) = false) 0 (fun rec i hi _ hI hr => ?_) (fun rec hI => ?_) (by simp) (Nat.zero_le _))
  · unfold f_backwashref24_from_B1
    rw [if_pos (by simpa using hi)]
    refine Ok.bind (Ok.idxN hi ?_)
    rw [iw hi (by omega)]
    refine Ok.iteB (fun h1 => Ok.some ?_) (fun h1 => hr ((all_take_succ hi).2 ⟨hI, h1⟩))
    unfold idxInt
    rw [findIdx?_at (p := fun e : GEdge => e.To == (n : Int)) hI hi h1]
  · unfold f_backwashref24_from_B1
    rw [if_neg (by simp)]
    refine Ok.some ?_
    rw [List.take_length] at hI
    unfold idxInt
    rw [List.findIdx?_eq_none_iff.2 hI]
theorem rNothing_eq {n : Nat} (hn : n < g.Nodes.length) : f_backwashref24_Nothing g l n = some (noth g l n) := by
  unfold f_backwashref24_Nothing
  refine Ok.eq (Ok.bind (Ok.idxN hn ?_))
  rw [nd_get hn]
  unfold noth
  refine Ok.iteB (fun h1 => Ok.some ?_) (fun h1 => ?_)
  · simp only [Bool.or_eq_true, Bool.and_eq_true, beq_iff_eq] at h1
    rcases h1 with (h1 | h1) | h1
    · rw [if_pos h1]
    · rw [if_neg (by omega), if_pos h1.1, h1.2]; rfl
    · rw [if_neg (by omega), if_neg (by omega), if_pos h1.1, h1.2]; rfl
  simp only [Bool.or_eq_false_iff, Bool.and_eq_false_iff, beq_eq_false_iff_ne, ne_eq] at h1
  rw [from_eq I]
  refine Ok.bind (Ok.some ?_)
  rw [if_neg h1.1.1]
  by_cases h2 : (nd g n).Kind = 3
  · rw [if_pos h2]
    have hz : ((nd g n).Arg == 0) = false := by rw [beq_eq_false_iff_ne]; omega
    rw [hz, if_pos (by rw [h2]; simp)]; exact Ok.some rfl
  rw [if_neg h2]
  by_cases h3 : (nd g n).Kind = 4
  · rw [if_pos h3]
    have hz : ((nd g n).Arg == 1) = false := by rw [beq_eq_false_iff_ne]; omega
    rw [hz, if_pos (by rw [h3]; simp)]; exact Ok.some rfl
  rw [if_neg h3]
  by_cases h4 : (nd g n).Kind = 6 ∨ (nd g n).Kind = 8
  · rw [if_pos h4]
    have hb : ((!((nd g n).Kind == 6)) && (!((nd g n).Kind == 8))) = false := by
      rcases h4 with h4 | h4 <;> rw [h4] <;> rfl
    rw [hb, Bool.or_false]
    rcases src_idx l n with ⟨i, hi, h5, h6⟩ | ⟨h5, h6⟩
    · rw [h5, h6, if_neg (by simp)]
      refine Ok.bind (Ok.idxN hi ?_)
      rw [idx_nd (I.inE _ (List.getElem_mem hi)).1]
      exact Ok.bind (Ok.some (Ok.some rfl))
    · rw [h5, h6, if_pos (by decide)]
      exact Ok.some rfl
  · rw [if_neg h4, if_pos (by
      rw [not_or] at h4
      rw [beq_eq_false_iff_ne.2 h4.1, beq_eq_false_iff_ne.2 h4.2]; simp)]
    exact Ok.some rfl
omit I in
theorem wout_next {n : Nat} {own : GEdge} {i : Nat} (hi : i < l.length) : wout (l.take (i + 1)) n own = wout (l.take i) n own ++ if (l[i].To == (n : Int)) = true then [] else [turnE n own l[i]] := by
  unfold wout
  rw [take_snoc hi, List.filter_append, List.map_append, List.filter_cons, List.filter_nil]
  cases l[i].To == (n : Int) <;> simp
omit I in
theorem wout_len (l : List GEdge) (n : Nat) (own : GEdge) : (wout l n own).length ≤ l.length := by
  unfold wout; rw [List.length_map]; exact List.length_filter_le _ _
theorem without_eq {n : Nat} (hn : n < g.Nodes.length) : f_fuse_work_without ⟨⟨g.Parent, g.Bound, g.Nodes, l⟩, gone⟩ n = some ⟨⟨g.Parent, g.Bound, g.Nodes, wout l n (ownE l n)⟩, gone.set n true⟩ := by
  have hl := I.ll; have hgl := I.gl; have hnn := I.G.nl
  unfold f_fuse_work_without
  rw [source_eq I rfl]
  have hcb : f_slices_Clone_bool gone = some gone := by
    unfold f_slices_Clone_bool
    exact Ok.eq (Ok.guard (by simp; omega) (Ok.some (by simp)))
  refine Ok.eq (Ok.bind (Ok.some ?_))
  dsimp only
  rw [hcb]
  refine Ok.bind (Ok.some ?_)
  refine eachG (l := l) (by omega) (fun i (c : List GEdge) => (i, c)) (fun p => p.1) (fun _ _ => rfl) (fun i c => c = wout (l.take i) n (ownE l n)) 0 (fun rec i hi c _ hI hr => ?_) (fun rec c hI => ?_) (by simp [wout]) (Nat.zero_le _)
  · subst hI
    have hwl := wout_len (l.take i) n (ownE l n)
    rw [List.length_take] at hwl
    unfold f_fuse_work_without_B1
    dsimp only
    rw [if_pos (by simpa using hi)]
    refine Ok.bind (Ok.idxN hi ?_)
    have hnx := wout_next (n := n) (own := ownE l n) hi
    refine Ok.iteB (fun h1 => ?_) (fun h1 => ?_)
    · rw [iw hi (by omega)]
      exact hr _ (by rw [hnx, if_pos h1, List.append_nil])
    · rw [if_neg (by simp [h1])] at hnx
      have hJ : ∀ e, e = turnE n (ownE l n) l[i] → Ok (f_fuse_work_without_J2 (i : Int) (wout (l.take i) n (ownE l n)) rec e) _ := fun e he => by
        subst he
        unfold f_fuse_work_without_J2
        refine Ok.guard (by simp; omega) ?_
        rw [iw hi (by omega)]
        exact hr _ hnx.symm
      refine Ok.iteB (fun h2 => hJ _ ?_) (fun h2 => hJ _ ?_)
      · unfold turnE; rw [if_pos (by simpa using h2)]
      · unfold turnE; rw [if_neg (by simpa using h2)]
  · subst hI
    unfold f_fuse_work_without_B1
    dsimp only
    rw [if_neg (by simp), List.take_length]
    exact Ok.bind (Ok.idxN (l := gone) (show n < gone.length by omega) (Ok.some (by rw [Int.toNat_natCast])))
theorem wout_in {n : Nat} (hn : n < g.Nodes.length) : InE g (wout l n (ownE l n)) := fun e he => by
  obtain ⟨x, hx, rfl⟩ := List.mem_map.1 he
  have hxe := I.inE x (List.mem_filter.1 hx).1
  have hin : inG g (ownE l n).From := by
    unfold ownE
    cases hs : src l n with
    | none => have := I.G.nl; exact ⟨by simp, by simp; omega⟩
    | some e => exact (I.inE e (List.mem_of_find?_eq_some hs)).1
  unfold turnE
  split
  · exact ⟨hin, hxe.2⟩
  · exact hxe
theorem leave_eq : f_fuse_work_leave_p0 ⟨⟨g.Parent, g.Bound, g.Nodes, l⟩, gone⟩ = some (match (List.range g.Nodes.length).find? (canLeave g l gone) with
    | some n => (true, ⟨⟨g.Parent, g.Bound, g.Nodes, wout l n (ownE l n)⟩, gone.set n true⟩)
    | none => (false, ⟨⟨g.Parent, g.Bound, g.Nodes, l⟩, gone⟩)) := by
  have hl := I.ll; have hgl := I.gl; have hnn := I.G.nl
  unfold f_fuse_work_leave_p0
  refine Ok.eq (Ok.each1 (l := g.Nodes) (by omega) (fun i => ∀ j < i, canLeave g l gone j = false) 0 (fun rec i hi _ hI hr => ?_) (fun rec hI => ?_) (by intro j hj; omega) (Nat.zero_le _))
  · have hc : canLeave g l gone i = (!atB gone i && (noth g l i && rightB g (wout l i (ownE l i)) (gone.set i true))) := rfl
    have hno : canLeave g l gone i = false → Ok (rec (IntKind.i64.wrap ((i : Int) + 1))) _ := fun h0 => by
      rw [iw hi (by omega)]
      refine hr fun j hj => ?_
      rcases Nat.lt_or_eq_of_le (Nat.lt_succ_iff.1 hj) with h2 | rfl
      · exact hI j h2
      · exact h0
    unfold f_fuse_work_leave_p0_B1
    dsimp only
    rw [if_pos (by simpa using hi)]
    refine Ok.bind (Ok.idxN (show i < gone.length by omega) ?_)
    rw [← atB_get (g := g) (by omega) hgl]
    refine Ok.iteB (fun h1 => hno (by rw [hc, h1]; rfl)) (fun h1 => ?_)
    rw [nothing_eq I rfl rfl hi]
    refine Ok.bind (Ok.some ?_)
    refine Ok.iteB (fun h2 => hno (by rw [Bool.not_eq_true'] at h2; rw [hc, h2]; simp)) (fun h2 => ?_)
    rw [Bool.not_eq_false'] at h2
    rw [without_eq I hi]
    refine Ok.bind (Ok.some ?_)
    rw [right_eq I.G I.pr (Nat.le_trans (wout_len _ _ _) hl) (wout_in I hi) (by simpa using hgl)]
    refine Ok.bind (Ok.some ?_)
    refine Ok.iteB (fun h3 => Ok.some ?_) (fun h3 => hno (by rw [hc, h3]; simp))
    rw [range_at hI hi (by rw [hc, h1, h2, h3]; rfl)]
  · unfold f_fuse_work_leave_p0_B1
    dsimp only
    rw [if_neg (by simp)]
    refine Ok.some ?_
    rw [range_end hI]
theorem rleave_ok (B : (Int → Option (GBackwashref24_state × Bool)) → Int → Option (GBackwashref24_state × Bool)) (hB : B = f_backwashref24_step_B3 g ⟨l, gone⟩) : loopK B rounds 0 = some (match (List.range g.Nodes.length).find? (canLeave g l gone) with
    | some n => (⟨wout l n (ownE l n), gone.set n true⟩, true)
    | none => (⟨l, gone⟩, false)) := by
  subst hB
  have hl := I.ll; have hgl := I.gl; have hnn := I.G.nl
  refine Ok.eq (Ok.each1 (l := g.Nodes) (by omega) (fun i => ∀ j < i, canLeave g l gone j = false) 0 (fun rec i hi _ hI hr => ?_) (fun rec hI => ?_) (by intro j hj; omega) (Nat.zero_le _))
  · have hc : canLeave g l gone i = (!atB gone i && (noth g l i && rightB g (wout l i (ownE l i)) (gone.set i true))) := rfl
    have hno : canLeave g l gone i = false → Ok (rec (IntKind.i64.wrap ((i : Int) + 1))) _ := fun h0 => by
      rw [iw hi (by omega)]
      refine hr fun j hj => ?_
      rcases Nat.lt_or_eq_of_le (Nat.lt_succ_iff.1 hj) with h2 | rfl
      · exact hI j h2
      · exact h0
    unfold f_backwashref24_step_B3
    dsimp only
    rw [if_pos (by simpa using hi)]
    refine Ok.bind (Ok.idxN (show i < gone.length by omega) ?_)
    rw [← atB_get (g := g) (by omega) hgl]
    refine Ok.iteB (fun h1 => hno (by rw [hc, h1]; rfl)) (fun h1 => ?_)
    rw [rNothing_eq I hi]
    refine Ok.bind (Ok.some ?_)
    refine Ok.iteB (fun h2 => hno (by rw [Bool.not_eq_true'] at h2; rw [hc, h2]; simp)) (fun h2 => ?_)
    rw [Bool.not_eq_false'] at h2
    rw [from_eq I]
    refine Ok.bind (Ok.some ?_)
    have hown := own_ok I hi h1 h2
    rcases src_idx l i with ⟨k, hk, h5, h6⟩ | ⟨h5, h6⟩
    rotate_left
    · obtain ⟨e, h7, _⟩ := src_some I hi h1 (by rw [(noth_ports h2).1]; omega)
      rw [h6] at h7; cases h7
    rw [h5]
    refine Ok.bind (Ok.idxN hk ?_)
    have hoe : l[k] = ownE l i := by unfold ownE; rw [h6]; rfl
    rw [hoe]
    refine Ok.guard (by simp; omega) ?_
    refine Ok.bind (Ok.idxN (show i < (([] : List Bool) ++ gone).length by simp; omega) ?_)
    refine eachG (l := l) (by omega) (fun j (c : List GEdge) => (j, c)) (fun p => p.1) (fun _ _ => rfl) (fun j c => c = wout (l.take j) i (ownE l i)) 0 (fun rec' j hj c _ hJ hr' => ?_) (fun rec' c hJ => ?_) (by simp [wout]) (Nat.zero_le _)
    · subst hJ
      have hwl := wout_len (l.take j) i (ownE l i)
      rw [List.length_take] at hwl
      unfold f_backwashref24_step_B5
      dsimp only
      rw [if_pos (by simpa using hj)]
      refine Ok.bind (Ok.idxN hj ?_)
      have hnx := wout_next (n := i) (own := ownE l i) hj
      have hJ6 : ∀ e : GEdge, e.To = l[j].To → e = turnE i (ownE l i) l[j] → Ok (f_backwashref24_step_J6 (i : Int) (j : Int) (wout (l.take j) i (ownE l i)) rec' e) _ := fun e ht he => by
        unfold f_backwashref24_step_J6
        rw [ht, iw hj (by omega)]
        refine Ok.iteB (fun h7 => ?_) (fun h7 => ?_)
        · rw [Bool.not_eq_true'] at h7
          refine Ok.guard (by simp; omega) ?_
          refine hr' _ ?_
          rw [hnx, if_neg (by simp [h7]), he]
        · rw [Bool.not_eq_false'] at h7
          refine hr' _ ?_
          rw [hnx, if_pos h7, List.append_nil]
      refine Ok.iteB (fun h7 => hJ6 _ rfl ?_) (fun h7 => hJ6 _ rfl ?_)
      · unfold turnE; rw [if_pos (by simpa using h7)]
      · unfold turnE; rw [if_neg (by simpa using h7)]
    · subst hJ
      unfold f_backwashref24_step_B5
      dsimp only
      rw [if_neg (by simp), List.take_length]
      unfold f_backwashref24_step_J4
      dsimp only
      rw [List.nil_append, Int.toNat_natCast, runs_eq I.G I.pr (Nat.le_trans (wout_len _ _ _) hl) (wout_in I hi) (by simpa using hgl)]
      refine Ok.bind (Ok.some ?_)
      refine Ok.iteB (fun h8 => Ok.some ?_) (fun h8 => hno (by rw [hc, h8]; simp))
      rw [range_at hI hi (by rw [hc, h1, h2, h8]; rfl)]
  · unfold f_backwashref24_step_B3
    dsimp only
    rw [if_neg (by simp)]
    refine Ok.some ?_
    rw [range_end hI]
theorem rstep_eq : f_backwashref24_step g ⟨l, gone⟩ = some (match stepS g l gone with
    | some (l', gone') => (⟨l', gone'⟩, true)
    | none => (⟨l, gone⟩, false)) := by
  have hl := I.ll; have hgl := I.gl; have hnn := I.G.nl
  have hil := idl_len (l := l) I.G hgl
  unfold f_backwashref24_step
  dsimp only
  rw [List.nil_append]
  refine Ok.eq (Ok.guard (by simp; omega) ?_)
  refine eachG (l := g.Nodes) (by omega) (fun i (p : Bool × List Bool) => (p.1, i, p.2)) (fun p => p.2.1) (fun _ _ => rfl) (fun i p => p.1 = ((List.range i).any (isIdle g l gone)) ∧ p.2 = (idl g l gone).take i ++ gone.drop i) (s0 := (false, gone)) 0 (fun rec i hi p _ hI hr => ?_) (fun rec p hI => ?_) ⟨by simp, by simp⟩ (Nat.zero_le _)
  · obtain ⟨so, a⟩ := p
    obtain ⟨I1, I2⟩ := hI
    dsimp only at I1 I2
    have hal : a.length = g.Nodes.length := by rw [I2, List.length_append, List.length_take, List.length_drop, hil]; omega
    unfold f_backwashref24_step_B12
    dsimp only
    rw [if_pos (by simpa using hi), iw hi (by omega)]
    have hany : (List.range (i + 1)).any (isIdle g l gone) = (so || isIdle g l gone i) := by rw [List.range_succ, List.any_append, I1]; simp
    have hnx := idl_next (l := l) I.G hgl hi
    have hga : atB gone (i : Int) = gone[i]'(by omega) := atB_get (g := g) (by omega) hgl (by omega)
    have hkeep : isIdle g l gone i = false → Ok (rec (so, ((i + 1 : Nat) : Int), a)) _ := fun h0 => by
      refine hr (so, a) ⟨by dsimp only; rw [hany, h0, Bool.or_false], ?_⟩
      dsimp only
      rw [hnx, h0, Bool.or_false, ← I2]
      have : a[i]'(by omega) = gone[i]'(by omega) := by
        have h1 : ((idl g l gone).take i).length = i := by rw [List.length_take, hil]; omega
        simp only [I2]
        rw [List.getElem_append_right (by omega)]
        simp [h1]
      rw [hga, ← this, List.set_getElem_self]
    refine Ok.bind (Ok.idxN (show i < gone.length by omega) ?_)
    refine Ok.iteB (fun h2 => hkeep (by unfold isIdle; rw [hga, h2]; rfl)) (fun h2 => ?_)
    refine Ok.bind (Ok.idxN hi ?_)
    rw [nd_get hi]
    refine Ok.iteB (fun h3 => hkeep (by unfold isIdle; rw [h3]; simp)) (fun h3 => ?_)
    refine Ok.guard (by omega) ?_
    refine Ok.bind2 (reach_top (g := g) (l := l) (by omega) (by omega) I.inE (n := (i : Int)) ⟨by omega, by omega⟩) ?_
    rintro ⟨t, c⟩ ⟨q1, q2⟩
    dsimp only at q1 q2 ⊢
    refine Ok.guard (by simp [q1]) ?_
    refine Ok.iteB (fun h4 => ?_) (fun h4 => hkeep ?_)
    · rw [Bool.not_eq_true'] at h4
      have hnu : ¬ Us g l i := by rw [q2] at h4; exact of_decide_eq_false h4
      have hid : isIdle g l gone i = true := by unfold isIdle; rw [hga, h2, decide_eq_true hnu, h3]; rfl
      refine Ok.bind (Ok.idxN (l := a) (show i < a.length by omega) ?_)
      rw [Int.toNat_natCast]
      refine hr (true, a.set i true) ⟨by dsimp only; rw [hany, hid, Bool.or_true], ?_⟩
      dsimp only
      rw [hnx, hid, Bool.or_true, ← I2]
    · rw [Bool.not_eq_false'] at h4
      rw [q2] at h4
      unfold isIdle; rw [decide_eq_false (not_not.2 (of_decide_eq_true h4))]; simp
  · obtain ⟨so, a⟩ := p
    obtain ⟨I1, I2⟩ := hI
    dsimp only at I1 I2
    rw [List.take_of_length_le (by omega), List.drop_of_length_le (by omega), List.append_nil] at I2
    have hso : so = someI g l gone := I1
    subst I2
    unfold f_backwashref24_step_B12
    dsimp only
    rw [if_neg (by simp)]
    unfold f_backwashref24_step_J1
    refine eachG (l := l) (by omega) (fun j (c : List GEdge) => (j, c)) (fun p => p.1) (fun _ _ => rfl) (fun j c => c = (l.take j).filter (keepE (idl g l gone))) 0 (fun rec' j hj c _ hJ hr' => ?_) (fun rec' c hJ => ?_) (by simp) (Nat.zero_le _)
    · subst hJ
      have hfl : ((l.take j).filter (keepE (idl g l gone))).length ≤ (l.take j).length := List.length_filter_le _ _
      rw [List.length_take] at hfl
      unfold f_backwashref24_step_B11
      dsimp only
      rw [if_pos (by simpa using hj)]
      refine Ok.bind (Ok.idxN hj ?_)
      have hee := I.inE _ (List.getElem_mem hj)
      have hft : (l.take (j + 1)).filter (keepE (idl g l gone)) = (l.take j).filter (keepE (idl g l gone)) ++ if keepE (idl g l gone) l[j] = true then [l[j]] else [] := by rw [take_snoc hj, List.filter_append, List.filter_cons, List.filter_nil]
      rw [iw hj (by omega)]
      refine Ok.bind (get_atB hee.1.1 (by rw [hil]; exact hee.1.2) ?_)
      refine Ok.iteB (fun h1 => hr' _ (by rw [hft, if_neg (by unfold keepE; rw [h1]; simp), List.append_nil])) (fun h1 => ?_)
      refine Ok.bind (get_atB hee.2.1 (by rw [hil]; exact hee.2.2) ?_)
      refine Ok.iteB (fun h2 => ?_) (fun h2 => hr' _ (by rw [Bool.not_eq_false'] at h2; rw [hft, if_neg (by unfold keepE; rw [h2]; simp), List.append_nil]))
      rw [Bool.not_eq_true'] at h2
      refine Ok.guard (by simp; omega) ?_
      exact hr' _ (by rw [hft, if_pos (by unfold keepE; rw [h1, h2]; rfl)])
    · subst hJ
      unfold f_backwashref24_step_B11
      dsimp only
      rw [if_neg (by simp), List.take_length]
      unfold f_backwashref24_step_J2
      have h73 : f_backwashref24_step_B7 g ⟨l, gone⟩ = f_backwashref24_step_B3 g ⟨l, gone⟩ := rfl
      have hfin : Ok (some (match (List.range g.Nodes.length).find? (canLeave g l gone) with
          | some n => ((⟨wout l n (ownE l n), gone.set n true⟩ : GBackwashref24_state), true)
          | none => (⟨l, gone⟩, false))) (fun r => (someI g l gone && rightB g (l.filter (keepE (idl g l gone))) (idl g l gone)) = false → r = match stepS g l gone with
          | some (l', gone') => (⟨l', gone'⟩, true)
          | none => (⟨l, gone⟩, false)) := Ok.some fun h0 => by
        unfold stepS
        rw [if_neg (by simp [h0])]
        cases (List.range g.Nodes.length).find? (canLeave g l gone) <;> rfl
      rw [rleave_ok I _ h73, rleave_ok I _ rfl, hso]
      refine Ok.iteB (fun h1 => ?_) (fun h1 => Ok.mono hfin fun r hr => hr (by rw [h1]; rfl))
      rw [runs_eq I.G I.pr (Nat.le_trans (List.length_filter_le _ _) hl) (fun e he => I.inE e (List.mem_filter.1 he).1) hil]
      refine Ok.bind (Ok.some ?_)
      refine Ok.iteB (fun h2 => Ok.some ?_) (fun h2 => Ok.mono hfin fun r hr => hr (by rw [h2]; simp))
      unfold stepS
      rw [if_pos (by rw [h1, h2]; rfl)]
end
/-! The whole. -/
noncomputable def fin (g : GGraph) : List GEdge × List Bool := runS g g.Nodes.length g.Edges (List.replicate g.Nodes.length false)
theorem cf_rep (n : Nat) : cf (List.replicate n false) = n := by simp [cf]
theorem keepN_none : ∀ (xs : List GNode), keepN xs (List.replicate xs.length false) = xs
  | [] => rfl
  | x :: xs => by rw [List.length_cons, List.replicate_succ, keepN, keepN_none xs]
theorem now_none {n : Nat} {i : Int} (h0 : 0 ≤ i) (h1 : i < n) : now (List.replicate n false) i = i := by
  have := now_alive (gone := List.replicate n false) (k := i.toNat) (by simp; omega) (by simp)
  rw [Int.toNat_of_nonneg h0] at this
  rw [this, List.take_replicate, cf_rep, Nat.min_eq_left (by omega)]
  omega
theorem built_none {g : GGraph} (hE : InE g g.Edges) : builtG g g.Edges (List.replicate g.Nodes.length false) = g := by
  unfold builtG
  rw [keepN_none]
  have : g.Edges.map (mapE (List.replicate g.Nodes.length false)) = g.Edges := by
    conv => rhs; rw [← List.map_id g.Edges]
    refine List.map_congr_left fun e he => ?_
    obtain ⟨h1, h2⟩ := hE e he
    unfold mapE
    rw [now_none h1.1 h1.2, now_none h2.1 h2.2]; rfl
  rw [this]
theorem Inv.start {g : GGraph} (hG : VA.Good g) (hpr : ∀ x ∈ g.Nodes, x.Prog.length < 1000000) : Inv g g.Edges (List.replicate g.Nodes.length false) := by
  have hE : InE g g.Edges := fun e he => ⟨(hG.ed.at he).1, (hG.ed.at he).2.1⟩
  refine ⟨hG, hpr, hG.el, by simp, fun e he => ?_, by rw [built_none hE]; exact hG, fun n _ h => by rw [atB_rep] at h; cases h⟩
  obtain ⟨h1, h2⟩ := hE e he
  exact ⟨⟨h1.1, by simpa using h1.2, atB_rep _ _⟩, ⟨h2.1, by simpa using h2.2, atB_rep _ _⟩⟩
theorem cf_le (b : List Bool) : cf b ≤ b.length := List.length_filter_le _ _
theorem Make_good {g : GGraph} (hG : VA.Good g) (hpr : ∀ x ∈ g.Nodes, x.Prog.length < 1000000) : f_fuse_Make g = some (built g (fin g).1 (fin g).2, 0) := by
  have hn := hG.nl
  unfold f_fuse_Make
  rw [Check_eq, chk_good.2 hG |> fun h => show some (chk g) = some (chk g) from rfl]
  refine Ok.eq (Ok.bind (Ok.some ?_))
  rw [chk_good.2 hG, if_neg (by simp)]
  refine Ok.guard (by omega) ?_
  have I0 := Inv.start hG hpr
  refine Ok.loop0 (fun p : List Int × List Int × List GNode × List GEdge × List Bool => p.1 = g.Parent ∧ p.2.1 = g.Bound ∧ p.2.2.1 = g.Nodes ∧ Inv g p.2.2.2.1 p.2.2.2.2 ∧ runS g g.Nodes.length p.2.2.2.1 p.2.2.2.2 = fin g) (fun p => cf p.2.2.2.2) ?_ ⟨rfl, rfl, rfl, I0, rfl⟩ (by
    dsimp only; rw [cf_rep]; simp only [rounds]; omega)
  rintro rec ⟨P, B, N, l, gone⟩ ⟨e1, e2, e3, I, hR⟩ hr
  dsimp only at e1 e2 e3 I hR hr
  subst e1 e2 e3
  have hcl : cf gone ≤ g.Nodes.length := by have := cf_le gone; have := I.gl; omega
  unfold f_fuse_Make_B2
  dsimp only
  rw [idle_eq I.G I.pr I.ll I.inE I.gl rfl]
  refine Ok.bind (Ok.some ?_)
  have hstep : ∀ l' gone', stepS g l gone = some (l', gone') → Ok (rec (g.Parent, g.Bound, g.Nodes, l', gone')) (fun r => r = (built g (fin g).1 (fin g).2, 0)) := fun l' gone' hs => by
    obtain ⟨I', hlt⟩ := I.step hs
    refine hr _ ⟨rfl, rfl, rfl, I', ?_⟩ hlt
    rw [← hR]
    dsimp only
    have h1 : runS g (cf gone) l gone = runS g g.Nodes.length l gone := runS_more _ I (Nat.le_refl _) _ hcl
    rw [← h1]
    obtain ⟨k, hk⟩ : ∃ k, cf gone = k + 1 := ⟨cf gone - 1, by omega⟩
    rw [hk, runS, hs]
    dsimp only
    exact runS_more _ I' (by omega) _ (by omega)
  by_cases hc : (someI g l gone && rightB g (l.filter (keepE (idl g l gone))) (idl g l gone)) = true
  · rw [if_pos hc]
    dsimp only
    rw [if_pos rfl]
    exact hstep _ _ (by unfold stepS; rw [if_pos hc])
  · rw [if_neg hc]
    dsimp only
    rw [if_neg (by simp), leave_eq I]
    refine Ok.bind (Ok.some ?_)
    cases hf : (List.range g.Nodes.length).find? (canLeave g l gone) with
    | some n =>
      dsimp only
      rw [if_pos rfl]
      exact hstep _ _ (by unfold stepS; rw [if_neg hc, hf])
    | none =>
      dsimp only
      rw [if_neg (by simp)]
      have hs : stepS g l gone = none := by unfold stepS; rw [if_neg hc, hf]
      have hfin : fin g = (l, gone) := by
        rw [← hR]
        have : 0 < g.Nodes.length := by omega
        obtain ⟨k, hk⟩ : ∃ k, g.Nodes.length = k + 1 := ⟨g.Nodes.length - 1, by omega⟩
        rw [hk, runS, hs]
      unfold f_fuse_Make_J1
      have hgb := hG.bl; have hgp := hG.pl
      rw [done_eq (l := l) (gone := gone) (w := ⟨⟨g.Parent, g.Bound, g.Nodes, l⟩, gone⟩) (by omega) (by have := I.ll; omega) I.inE I.gl (by omega) (by omega) hpr rfl, hfin]
      exact Ok.bind (Ok.some (Ok.some rfl))
theorem rMake_good {g : GGraph} (hG : VA.Good g) (hpr : ∀ x ∈ g.Nodes, x.Prog.length < 1000000) : f_backwashref24_Make g = some (built g (fin g).1 (fin g).2, 0) := by
  have hn := hG.nl
  unfold f_backwashref24_Make
  rw [rCheck_eq _ (fun x hx => by have := hpr x hx; omega)]
  refine Ok.eq (Ok.bind (Ok.some ?_))
  rw [chk_good.2 hG, if_neg (by simp)]
  refine Ok.guard (by omega) ?_
  have I0 := Inv.start hG hpr
  refine Ok.loop0 (fun p : List GEdge × List Bool => Inv g p.1 p.2 ∧ runS g g.Nodes.length p.1 p.2 = fin g) (fun p => cf p.2) ?_ ⟨I0, rfl⟩ (by
    dsimp only; rw [cf_rep]; simp only [rounds]; omega)
  rintro rec ⟨l, gone⟩ ⟨I, hR⟩ hr
  dsimp only at I hR hr
  have hcl : cf gone ≤ g.Nodes.length := by have := cf_le gone; have := I.gl; omega
  unfold f_backwashref24_Make_B1
  dsimp only
  rw [rstep_eq I]
  refine Ok.bind (Ok.some ?_)
  cases hs : stepS g l gone with
  | some p =>
    obtain ⟨l', gone'⟩ := p
    dsimp only
    rw [if_neg (by simp)]
    obtain ⟨I', hlt⟩ := I.step hs
    refine hr _ ⟨I', ?_⟩ hlt
    rw [← hR]
    dsimp only
    have h1 : runS g (cf gone) l gone = runS g g.Nodes.length l gone := runS_more _ I (Nat.le_refl _) _ hcl
    rw [← h1]
    obtain ⟨k, hk⟩ : ∃ k, cf gone = k + 1 := ⟨cf gone - 1, by omega⟩
    rw [hk, runS, hs]
    dsimp only
    exact runS_more _ I' (by omega) _ (by omega)
  | none =>
    dsimp only
    rw [if_pos (by rfl)]
    have hfin : fin g = (l, gone) := by
      rw [← hR]
      obtain ⟨k, hk⟩ : ∃ k, g.Nodes.length = k + 1 := ⟨g.Nodes.length - 1, by omega⟩
      rw [hk, runS, hs]
    rw [built_eq (by omega) (by have := I.ll; omega) I.inE I.gl, hfin]
    exact Ok.bind (Ok.some (Ok.some rfl))
theorem Make_bad {g : GGraph} (h : ¬ VA.Good g) : f_fuse_Make g = some (⟨⟨[], [], [], []⟩, []⟩, 1) := by
  unfold f_fuse_Make
  rw [Check_eq]
  refine Ok.eq (Ok.bind (Ok.some ?_))
  rw [if_pos (by rw [← chk_good] at h; simp [h])]
  exact Ok.some rfl
theorem rMake_bad {g : GGraph} (h : ¬ VA.Good g) (hpr : ∀ x ∈ g.Nodes, x.Prog.length < 1000000) : f_backwashref24_Make g = some (⟨⟨[], [], [], []⟩, []⟩, 1) := by
  unfold f_backwashref24_Make
  rw [rCheck_eq _ (fun x hx => by have := hpr x hx; omega)]
  refine Ok.eq (Ok.bind (Ok.some ?_))
  rw [if_pos (by rw [← chk_good] at h; simp [h])]
  exact Ok.some rfl
end FU
end Go.Proofs.Ytbcbcdbkdljjlaa
