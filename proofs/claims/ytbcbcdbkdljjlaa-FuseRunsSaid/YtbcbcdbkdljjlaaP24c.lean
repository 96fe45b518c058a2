/-
  The law in plain words: what its plain function gives is true. No condition beyond those that each theorem names.
-/
import Derived.Test.YtbcbcdbkdljjlaaWalkFS0
import Derived.Test.YtbcbcdbkdljjlaaWalkFS1
import Derived.Test.YtbcbcdbkdljjlaaP24b
set_option linter.unusedSimpArgs false
set_option linter.unusedVariables false
set_option linter.unusedSectionVars false
namespace Go.Proofs.Ytbcbcdbkdljjlaa
open Go Go.RowKit VA
namespace FU
open Classical
/-! One step of making a graph smaller. -/
noncomputable def isIdle (g : GGraph) (l : List GEdge) (gone : List Bool) (n : Nat) : Bool := !atB gone n && (decide (¬ Us g l n) && !((nd g n).Kind == 1))
noncomputable def idl (g : GGraph) (l : List GEdge) (gone : List Bool) : List Bool := (List.range g.Nodes.length).map fun (n : Nat) => atB gone n || isIdle g l gone n
noncomputable def someI (g : GGraph) (l : List GEdge) (gone : List Bool) : Bool := (List.range g.Nodes.length).any (isIdle g l gone)
def keepE (gone : List Bool) (e : GEdge) : Bool := !atB gone e.From && !atB gone e.To
noncomputable def rightB (g : GGraph) (l : List GEdge) (gone : List Bool) : Bool := decide ((chk (builtG g l gone)).1 = 0)
def src (l : List GEdge) (n : Nat) : Option GEdge := l.find? fun e => e.To == (n : Int)
def noth (g : GGraph) (l : List GEdge) (n : Nat) : Bool :=
  if (nd g n).Kind = 13 then true else if (nd g n).Kind = 3 then (nd g n).Arg == 0 else if (nd g n).Kind = 4 then (nd g n).Arg == 1
  else if (nd g n).Kind = 6 ∨ (nd g n).Kind = 8 then match src l n with
    | some e => ((ndI g e.From).Kind == 6 || (ndI g e.From).Kind == 7 || (ndI g e.From).Kind == 14) || ((nd g n).Kind == 8 && (ndI g e.From).Kind == 8)
    | none => false
  else false
def turnE (n : Nat) (own e : GEdge) : GEdge := if e.From = n then ⟨own.From, e.To, e.Port, e.Exchange || own.Exchange⟩ else e
def wout (l : List GEdge) (n : Nat) (own : GEdge) : List GEdge := (l.filter fun e => !(e.To == (n : Int))).map (turnE n own)
def ownE (l : List GEdge) (n : Nat) : GEdge := (src l n).getD ⟨0, 0, 0, false⟩
noncomputable def canLeave (g : GGraph) (l : List GEdge) (gone : List Bool) (n : Nat) : Bool := !atB gone n && (noth g l n && rightB g (wout l n (ownE l n)) (gone.set n true))
/-- The next state; none: there is none. -/
noncomputable def stepS (g : GGraph) (l : List GEdge) (gone : List Bool) : Option (List GEdge × List Bool) :=
  if (someI g l gone && rightB g (l.filter (keepE (idl g l gone))) (idl g l gone)) = true then some (l.filter (keepE (idl g l gone)), idl g l gone)
  else match (List.range g.Nodes.length).find? (canLeave g l gone) with
    | some n => some (wout l n (ownE l n), gone.set n true)
    | none => none
theorem keepN_mem : ∀ (xs : List GNode) (a : List Bool), ∀ x ∈ keepN xs a, x ∈ xs
  | [], _, x, h => by simp [keepN] at h
  | y :: xs, true :: a, x, h => by simp only [keepN] at h; exact List.mem_cons_of_mem _ (keepN_mem xs a x h)
  | y :: xs, false :: a, x, h => by
    simp only [keepN] at h
    rcases List.mem_cons.1 h with rfl | h
    · exact List.mem_cons_self
    · exact List.mem_cons_of_mem _ (keepN_mem xs a x h)
  | y :: xs, [], x, h => by simp [keepN] at h
theorem find_idx {l : List GEdge} (p : GEdge → Bool) : (∃ i, ∃ h : i < l.length, idxInt p l = (i : Int) ∧ l.find? p = some l[i]) ∨ idxInt p l = -1 ∧ l.find? p = none := by
  unfold idxInt
  cases h : l.findIdx? p with
  | none =>
    right
    refine ⟨rfl, List.find?_eq_none.2 fun x hx => ?_⟩
    have := List.findIdx?_eq_none_iff.1 h x hx
    simp [this]
  | some i =>
    left
    obtain ⟨hi, hp, hlt⟩ := List.findIdx?_eq_some_iff_getElem.1 h
    refine ⟨i, hi, rfl, ?_⟩
    rw [List.find?_eq_some_iff_getElem]
    exact ⟨hp, i, hi, rfl, fun j hj => by simpa using hlt j hj⟩
section
variable {g : GGraph} {l : List GEdge} {gone : List Bool} (hG : VA.Good g) (hpr : ∀ x ∈ g.Nodes, x.Prog.length < 1000000) (hl : l.length ≤ 64) (hE : InE g l) (hg : gone.length = g.Nodes.length)
include hG hpr hl hE hg
theorem right_eq : f_fuse_work_right ⟨⟨g.Parent, g.Bound, g.Nodes, l⟩, gone⟩ = some (rightB g l gone) := by
  have hp := hG.pl; have hb := hG.bl; have hn := hG.nl
  unfold f_fuse_work_right rightB
  rw [done_eq (w := ⟨⟨g.Parent, g.Bound, g.Nodes, l⟩, gone⟩) (by omega) (by omega) hE hg (by omega) (by omega) hpr rfl]
  refine Ok.eq (Ok.bind (Ok.some ?_))
  show Ok (bindO (f_valid_Check (builtG g l gone)) _) _
  rw [Check_eq]
  refine Ok.bind (Ok.some (Ok.some ?_))
  rw [Bool.eq_iff_iff]; simp
theorem runs_eq : f_backwashref24_runs g ⟨l, gone⟩ = some (rightB g l gone) := by
  have hn := hG.nl
  unfold f_backwashref24_runs rightB
  rw [built_eq (by omega) (by omega) hE hg]
  refine Ok.eq (Ok.bind (Ok.some ?_))
  show Ok (bindO (f_backwashref09_Check (builtG g l gone)) _) _
  rw [rCheck_eq _ (fun x hx => by have := hpr x (keepN_mem _ _ x hx); omega)]
  refine Ok.bind (Ok.some (Ok.some ?_))
  rw [Bool.eq_iff_iff]; simp
omit hpr hE hl in
theorem idl_len : (idl g l gone).length = g.Nodes.length := by unfold idl; simp
omit hpr hE hl in
theorem idl_get {i : Nat} (hi : i < g.Nodes.length) : (idl g l gone)[i]'(by rw [idl_len hG hg]; exact hi) = (atB gone i || isIdle g l gone i) := by simp [idl]
omit hpr hE hl in
theorem idl_next {i : Nat} (hi : i < g.Nodes.length) : (idl g l gone).take (i + 1) ++ gone.drop (i + 1) = ((idl g l gone).take i ++ gone.drop i).set i (atB gone i || isIdle g l gone i) := by
  have hil : i < (idl g l gone).length := by rw [idl_len hG hg]; exact hi
  rw [take_snoc hil, idl_get hG hg hi]
  have h1 : ((idl g l gone).take i).length = i := by rw [List.length_take]; omega
  rw [List.set_append_right _ _ (by omega), h1, Nat.sub_self, List.drop_eq_getElem_cons (show i < gone.length by omega), List.set_cons_zero, List.append_assoc]; rfl
/-- Edges of operators that are gone are left out, in place. -/
theorem del_ok {some_2 : Bool} {a2 : List Bool} (ha2 : a2.length = g.Nodes.length) {i0 : Nat} (hi0 : i0 < l.length) (hk0 : keepE a2 l[i0] = false) (hlt : ∀ x ∈ l.take i0, keepE a2 x = true) {w : GFuse_work} (hw : w.g.Parent = g.Parent ∧ w.g.Bound = g.Bound ∧ w.g.Nodes = g.Nodes) :
    Ok (loopK (f_fuse_work_idle_p0_B3 w some_2 a2) rounds ((i0 : Int), ((i0 + 1 : Nat) : Int), l)) fun r => r = if (some_2 && rightB g (l.filter (keepE a2)) a2) = true then (true, ⟨⟨g.Parent, g.Bound, g.Nodes, l.filter (keepE a2)⟩, a2⟩) else (false, w) := by
  have hf0 : (l.take i0).filter (keepE a2) = l.take i0 := List.filter_eq_self.2 hlt
  refine eachG (l := l) (by omega) (fun j (p : Nat × List GEdge) => ((p.1 : Int), j, p.2)) (fun p => p.2.1) (fun _ _ => rfl) (fun j p => p.1 < j ∧ p.2.length = l.length ∧ p.2.take p.1 = (l.take j).filter (keepE a2) ∧ p.2.drop j = l.drop j) (s0 := (i0, l)) (i0 + 1) (fun rec j hj p _ hI hr => ?_) (fun rec p hI => ?_) ⟨by dsimp only; omega, rfl, ?_, rfl⟩ hi0
  · obtain ⟨i, a⟩ := p
    obtain ⟨I1, I2, I3, I4⟩ := hI
    dsimp only at I1 I2 I3 I4
    have hja : j < a.length := by omega
    have haj : a[j] = l[j] := by
      have h1 := List.drop_eq_getElem_cons hja
      have h2 := List.drop_eq_getElem_cons hj
      rw [I4, h2] at h1
      exact (List.cons.inj h1).1.symm
    have hdr : a.drop (j + 1) = l.drop (j + 1) := by rw [← List.drop_drop, ← List.drop_drop, I4]
    unfold f_fuse_work_idle_p0_B3
    dsimp only
    rw [if_pos (by simpa using hja)]
    refine Ok.bind (Ok.idxN hja ?_)
    rw [haj]
    have hm := List.getElem_mem hj
    have hee := hE _ hm
    have hft : (l.take (j + 1)).filter (keepE a2) = (l.take j).filter (keepE a2) ++ if keepE a2 l[j] = true then [l[j]] else [] := by rw [take_snoc hj, List.filter_append, List.filter_cons, List.filter_nil]
    rw [iw hj (by omega)]
    refine Ok.bind (get_atB hee.1.1 (by rw [ha2]; exact hee.1.2) ?_)
    refine Ok.iteB (fun h1 => hr (i, a) ⟨by dsimp only; omega, I2, by rw [hft, if_neg (by unfold keepE; rw [h1]; simp), List.append_nil]; exact I3, hdr⟩) (fun h1 => ?_)
    refine Ok.bind (get_atB hee.2.1 (by rw [ha2]; exact hee.2.2) ?_)
    refine Ok.iteB (fun h2 => ?_) (fun h2 => ?_)
    · rw [Bool.not_eq_true'] at h2
      refine Ok.bind (Ok.idxN (show i < a.length by omega) ?_)
      have hkj : keepE a2 l[j] = true := by unfold keepE; rw [h1, h2]; rfl
      have hwi : IntKind.i64.wrap ((i : Int) + 1) = ((i + 1 : Nat) : Int) := iw (show i < a.length by omega) (by omega)
      rw [hwi, Int.toNat_natCast]
      refine hr (i + 1, a.set i l[j]) ⟨by dsimp only; omega, by simpa using I2, ?_, ?_⟩
      · dsimp only
        rw [hft, if_pos hkj, take_snoc (show i < (a.set i l[j]).length by simp; omega), List.getElem_set_self, List.take_set_of_le (Nat.le_refl i), I3]
      · dsimp only
        rw [List.drop_set_of_lt (by omega)]; exact hdr
    · rw [Bool.not_eq_false'] at h2
      exact hr (i, a) ⟨by dsimp only; omega, I2, by rw [hft, if_neg (by unfold keepE; rw [h2]; simp), List.append_nil]; exact I3, hdr⟩
  · obtain ⟨i, a⟩ := p
    obtain ⟨I1, I2, I3, I4⟩ := hI
    dsimp only at I1 I2 I3 I4
    rw [List.take_length] at I3
    unfold f_fuse_work_idle_p0_B3
    dsimp only
    rw [if_neg (by simp; omega)]
    refine Ok.guard (by omega) (Ok.guard (by simp; omega) (Ok.guard (by omega) ?_))
    rw [Int.toNat_natCast]
    have ht : ∀ (b c : List GEdge), List.take i (List.take i a ++ b ++ c) = l.filter (keepE a2) := fun b c => by
      rw [List.append_assoc, List.take_append_of_le_length (by rw [List.length_take]; omega), List.take_take, Nat.min_self, I3]
    rw [ht, hw.1, hw.2.1, hw.2.2]
    have hfl : (l.filter (keepE a2)).length ≤ 64 := Nat.le_trans (List.length_filter_le _ _) hl
    refine Ok.iteB (fun h1 => ?_) (fun h1 => Ok.some (by rw [h1]; rfl))
    rw [right_eq hG hpr hfl (fun e he => hE e (List.mem_filter.1 he).1) ha2]
    refine Ok.bind (Ok.some ?_)
    refine Ok.iteB (fun h2 => Ok.some ?_) (fun h2 => Ok.some ?_)
    · rw [Bool.not_eq_true'] at h2; rw [h1, h2]; rfl
    · rw [Bool.not_eq_false'] at h2; rw [h1, h2]; rfl
  · dsimp only
    rw [take_snoc hi0, List.filter_append, hf0, List.filter_cons, List.filter_nil, if_neg (by simp [hk0]), List.append_nil]
theorem idle_eq {w : GFuse_work} (hw : w = ⟨⟨g.Parent, g.Bound, g.Nodes, l⟩, gone⟩) : f_fuse_work_idle_p0 w = some (if (someI g l gone && rightB g (l.filter (keepE (idl g l gone))) (idl g l gone)) = true then (true, ⟨⟨g.Parent, g.Bound, g.Nodes, l.filter (keepE (idl g l gone))⟩, idl g l gone⟩) else (false, w)) := by
  have hn := hG.nl
  unfold f_fuse_work_idle_p0
  have hcb : f_slices_Clone_bool w.gone = some gone := by
    rw [hw]; unfold f_slices_Clone_bool
    exact Ok.eq (Ok.guard (by simp; omega) (Ok.some (by simp)))
  rw [hcb]
  refine Ok.eq (Ok.bind (Ok.some ?_))
  refine Ok.bind2 (useful_ok (g := g) (l := l) (by omega) (by omega) hE (w := w) (by rw [hw]) (by rw [hw])) ?_
  intro u hu
  refine eachG (l := u) (by omega) (fun i (p : Bool × List Bool) => (p.1, i, p.2)) (fun p => p.2.1) (fun _ _ => rfl) (fun i p => p.1 = ((List.range i).any (isIdle g l gone)) ∧ p.2 = (idl g l gone).take i ++ gone.drop i) (s0 := (false, gone)) 0 (fun rec i hi p _ hI hr => ?_) (fun rec p hI => ?_) ⟨by simp, by simp⟩ (Nat.zero_le _)
  · obtain ⟨so, a⟩ := p
    obtain ⟨I1, I2⟩ := hI
    dsimp only at I1 I2
    have hiN : i < g.Nodes.length := by omega
    have hal : a.length = g.Nodes.length := by
      have := idl_len (l := l) hG hg
      rw [I2, List.length_append, List.length_take, List.length_drop, this]; omega
    unfold f_fuse_work_idle_p0_B5
    dsimp only
    rw [if_pos (by simpa using hi), iw hi (by omega)]
    have hui := hu.2 (i : Int) ⟨by omega, by omega⟩
    refine Ok.bind (get_atB (b := u) (i := (i : Int)) (by omega) (by omega) ?_)
    have hany : (List.range (i + 1)).any (isIdle g l gone) = (so || isIdle g l gone i) := by rw [List.range_succ, List.any_append, I1]; simp
    have hnx := idl_next (l := l) hG hg hiN
    have hga : atB gone (i : Int) = gone[i]'(by omega) := atB_get (g := g) (by omega) hg (by omega)
    have hkeep : isIdle g l gone i = false → Ok (rec (so, ((i + 1 : Nat) : Int), a)) (fun r => r = if (someI g l gone && rightB g (l.filter (keepE (idl g l gone))) (idl g l gone)) = true then (true, ⟨⟨g.Parent, g.Bound, g.Nodes, l.filter (keepE (idl g l gone))⟩, idl g l gone⟩) else (false, w)) := fun h0 => by
      refine hr (so, a) ⟨by dsimp only; rw [hany, h0, Bool.or_false], ?_⟩
      dsimp only
      rw [hnx, h0, Bool.or_false, ← I2]
      have : a[i]'(by omega) = gone[i]'(by omega) := by
        have h1 : ((idl g l gone).take i).length = i := by rw [List.length_take, idl_len hG hg]; omega
        simp only [I2]
        rw [List.getElem_append_right (by omega)]
        simp [h1]
      rw [hga, ← this, List.set_getElem_self]
    refine Ok.iteB (fun h1 => hkeep (by unfold isIdle; rw [decide_eq_false (not_not.2 (hui.1 h1))]; simp)) (fun h1 => ?_)
    have hnu : ¬ Us g l i := fun hh => by rw [hui.2 hh] at h1; cases h1
    rw [show w.gone = gone by rw [hw], show w.g.Nodes = g.Nodes by rw [hw]]
    refine Ok.bind (Ok.idxN (l := gone) (show i < gone.length by omega) ?_)
    refine Ok.iteB (fun h2 => hkeep (by unfold isIdle; rw [hga, h2]; rfl)) (fun h2 => ?_)
    refine Ok.bind (Ok.idxN (l := g.Nodes) hiN ?_)
    rw [nd_get hiN]
    refine Ok.iteB (fun h3 => ?_) (fun h3 => hkeep (by unfold isIdle; rw [h3]; simp))
    have hid : isIdle g l gone i = true := by unfold isIdle; rw [hga, h2, decide_eq_true hnu, h3]; rfl
    refine Ok.bind (Ok.idxN (l := a) (show i < a.length by omega) ?_)
    rw [Int.toNat_natCast]
    refine hr (true, a.set i true) ⟨by dsimp only; rw [hany, hid, Bool.or_true], ?_⟩
    dsimp only
    rw [hnx, hid, Bool.or_true, ← I2]
  · obtain ⟨so, a⟩ := p
    obtain ⟨I1, I2⟩ := hI
    dsimp only at I1 I2
    have hil := idl_len (l := l) hG hg
    rw [List.take_of_length_le (by omega), List.drop_of_length_le (by omega), List.append_nil] at I2
    have hso : so = someI g l gone := by rw [I1]; unfold someI; rw [hu.1]
    subst I2
    unfold f_fuse_work_idle_p0_B5
    dsimp only
    rw [if_neg (by simp)]
    unfold f_fuse_work_idle_p0_J1
    have hce : f_slices_Clone_Edge w.g.Edges = some l := by
      rw [hw]; unfold f_slices_Clone_Edge
      exact Ok.eq (Ok.guard (by simp; omega) (Ok.some (by simp)))
    rw [hce]
    refine Ok.bind (Ok.some ?_)
    rw [← hso]
    have hw3 : w.g.Parent = g.Parent ∧ w.g.Bound = g.Bound ∧ w.g.Nodes = g.Nodes := by rw [hw]; exact ⟨rfl, rfl, rfl⟩
    have h43 : @f_fuse_work_idle_p0_B4 = @f_fuse_work_idle_p0_B3 := rfl
    refine Ok.each1 (l := l) (by omega) (fun i => ∀ x ∈ l.take i, keepE (idl g l gone) x = true) 0 (fun rec' i hi _ hI hr => ?_) (fun rec' hI => ?_) (by simp) (Nat.zero_le _)
    · unfold f_fuse_work_idle_p0_B2
      rw [if_pos (by simpa using hi)]
      refine Ok.bind (Ok.idxN hi ?_)
      have hee := hE _ (List.getElem_mem hi)
      rw [iw hi (by omega)]
      refine Ok.bind (get_atB hee.1.1 (by rw [hil]; exact hee.1.2) ?_)
      refine Ok.iteB (fun h1 => ?_) (fun h1 => ?_)
      · rw [if_neg (by simp), h43]
        exact del_ok hG hpr hl hE hg hil hi (by unfold keepE; rw [h1]; rfl) hI hw3
      · refine Ok.bind (get_atB hee.2.1 (by rw [hil]; exact hee.2.2) ?_)
        refine Ok.iteB (fun h2 => ?_) (fun h2 => ?_)
        · rw [if_neg (by simp)]
          exact del_ok hG hpr hl hE hg hil hi (by unfold keepE; rw [h2]; simp) hI hw3
        · exact hr ((all_take_succ hi).2 ⟨hI, by unfold keepE; rw [h1, h2]; rfl⟩)
    · unfold f_fuse_work_idle_p0_B2
      rw [if_neg (by simp)]
      rw [List.take_length] at hI
      have hf : l.filter (keepE (idl g l gone)) = l := List.filter_eq_self.2 hI
      rw [hf, hw3.1, hw3.2.1, hw3.2.2]
      refine Ok.iteB (fun h1 => ?_) (fun h1 => Ok.some (by rw [h1]; rfl))
      rw [right_eq hG hpr hl hE hil]
      refine Ok.bind (Ok.some ?_)
      refine Ok.iteB (fun h2 => Ok.some ?_) (fun h2 => Ok.some ?_)
      · rw [Bool.not_eq_true'] at h2; rw [h1, h2]; rfl
      · rw [Bool.not_eq_false'] at h2; rw [h1, h2]; rfl
end
end FU
end Go.Proofs.Ytbcbcdbkdljjlaa
