/-
  The law in plain words: what its plain function gives is true. No condition beyond those that each theorem names.
-/
import Derived.Test.YtbcbcdbkdljjlaaWalkFS2
import Derived.Test.YtbcbcdbkdljjlaaP24e
set_option linter.unusedSimpArgs false
set_option linter.unusedVariables false
set_option linter.unusedSectionVars false
namespace Go.Proofs.Ytbcbcdbkdljjlaa
open Go Go.RowKit VA
namespace FU
/-! The statement FuseRight. -/
theorem awake_ok : f_backwashlaw24_awake = some true := by kernel_rfl
theorem Short_ok (g : GGraph) : Ok (f_backwashref08_Short g) fun r => r = true → (g.Parent.length ≤ 20 ∧ g.Bound.length ≤ 20 ∧ g.Nodes.length ≤ 60 ∧ g.Edges.length ≤ 100) ∧ ∀ x ∈ g.Nodes, x.Prog.length ≤ 100 := by
  unfold f_backwashref08_Short
  refine Ok.iteB (fun _ => Ok.some fun h => by cases h) (fun hx => ?_)
  simp only [Bool.or_eq_false_iff, decide_eq_false_iff_not] at hx
  refine Ok.each1 (l := g.Nodes) (by omega) (fun i => ∀ x ∈ g.Nodes.take i, x.Prog.length ≤ 100) 0 (fun rec i hi _ hI hr => ?_) (fun rec hI => ?_) (by simp) (Nat.zero_le _)
  · unfold f_backwashref08_Short_B1
    rw [if_pos (by simpa using hi)]
    refine Ok.bind (Ok.idxN hi ?_)
    refine Ok.iteB (fun _ => Ok.some fun h => by cases h) (fun h1 => ?_)
    rw [iw hi (by omega)]
    exact hr ((all_take_succ hi).2 ⟨hI, by simp at h1; omega⟩)
  · unfold f_backwashref08_Short_B1
    rw [if_neg (by simp)]
    rw [List.take_length] at hI
    exact Ok.some fun _ => ⟨by omega, hI⟩
theorem ints_refl {a : List Int} (h : a.length < 1000000000000) : f_backwashref08_ints a a = some true := by
  unfold f_backwashref08_ints
  rw [if_neg (by simp)]
  refine Ok.eq (Ok.each1 (l := a) (by omega) (fun _ => True) 0 (fun rec i hi _ _ hr => ?_) (fun rec _ => ?_) trivial (Nat.zero_le _))
  · unfold f_backwashref08_ints_B1
    rw [if_pos (by simpa using hi)]
    refine Ok.bind (Ok.idxN hi (Ok.bind (Ok.idxN hi ?_)))
    rw [if_neg (by simp), iw hi (by omega)]
    exact hr trivial
  · unfold f_backwashref08_ints_B1
    rw [if_neg (by simp)]
    exact Ok.some rfl
theorem prog_refl {a : List GIns} (h : a.length < 1000000000000) : f_backwashref07_Same a a = some true := by
  unfold f_backwashref07_Same
  rw [if_neg (by simp)]
  refine Ok.eq (Ok.each1 (l := a) (by omega) (fun _ => True) 0 (fun rec i hi _ _ hr => ?_) (fun rec _ => ?_) trivial (Nat.zero_le _))
  · unfold f_backwashref07_Same_B1
    rw [if_pos (by simpa using hi)]
    refine Ok.bind (Ok.idxN hi (Ok.bind (Ok.idxN hi ?_)))
    rw [if_neg (by simp), iw hi (by omega)]
    exact hr trivial
  · unfold f_backwashref07_Same_B1
    rw [if_neg (by simp)]
    exact Ok.some rfl
theorem gSame_refl {a : GGraph} (hp : a.Parent.length < 1000000) (hb : a.Bound.length < 1000000) (hn : a.Nodes.length < 1000000) (he : a.Edges.length < 1000000) (hpr : ∀ x ∈ a.Nodes, x.Prog.length < 1000000) : f_backwashref08_Same a a = some true := by
  unfold f_backwashref08_Same
  rw [ints_refl (by omega), ints_refl (by omega)]
  refine Ok.eq (Ok.bind (Ok.some ?_))
  rw [if_pos rfl]
  refine Ok.bind (Ok.some ?_)
  rw [if_neg (by simp)]
  refine Ok.each1 (l := a.Nodes) (by omega) (fun _ => True) 0 (fun rec i hi _ _ hr => ?_) (fun rec _ => ?_) trivial (Nat.zero_le _)
  · unfold f_backwashref08_Same_B3
    rw [if_pos (by simpa using hi)]
    refine Ok.bind (Ok.idxN hi (Ok.bind (Ok.idxN hi ?_)))
    rw [if_neg (by simp), prog_refl (by have := hpr _ (List.getElem_mem hi); omega)]
    refine Ok.bind (Ok.some ?_)
    rw [if_neg (by simp), iw hi (by omega)]
    exact hr trivial
  · unfold f_backwashref08_Same_B3
    rw [if_neg (by simp)]
    unfold f_backwashref08_Same_J1
    refine Ok.each1 (l := a.Edges) (by omega) (fun _ => True) 0 (fun rec i hi _ _ hr => ?_) (fun rec _ => ?_) trivial (Nat.zero_le _)
    · unfold f_backwashref08_Same_B2
      rw [if_pos (by simpa using hi)]
      refine Ok.bind (Ok.idxN hi (Ok.bind (Ok.idxN hi ?_)))
      rw [if_neg (by simp), iw hi (by omega)]
      exact hr trivial
    · unfold f_backwashref08_Same_B2
      rw [if_neg (by simp)]
      exact Ok.some rfl
/-- What both make, and how great it is. -/
theorem both (g : GGraph) (hpr : ∀ x ∈ g.Nodes, x.Prog.length ≤ 100) : ∃ r : GFused × Int, f_fuse_Make g = some r ∧ f_backwashref24_Make g = some r ∧ r.1.Graph.Parent.length < 1000000 ∧ r.1.Graph.Bound.length < 1000000 ∧ r.1.Graph.Nodes.length < 1000000 ∧ r.1.Graph.Edges.length < 1000000 ∧
    (∀ x ∈ r.1.Graph.Nodes, x.Prog.length < 1000000) ∧ r.1.Now.length < 1000000 := by
  have hpr' : ∀ x ∈ g.Nodes, x.Prog.length < 1000000 := fun x hx => by have := hpr x hx; omega
  by_cases h : VA.Good g
  · refine ⟨_, Make_good h hpr', rMake_good h hpr', ?_⟩
    have I := (runS_inv g.Nodes.length (Inv.start h hpr') (by rw [cf_rep]; omega)).1
    have hp := h.pl; have hb := h.bl; have hn := h.nl
    have hll : (fin g).1.length ≤ 64 := I.ll
    have hgl : (fin g).2.length = g.Nodes.length := I.gl
    refine ⟨by show g.Parent.length < _; omega, by show g.Bound.length < _; omega, ?_, ?_, fun x hx => hpr' x (keepN_mem _ _ x hx), ?_⟩
    · show (keepN g.Nodes (fin g).2).length < _
      rw [keepN_len _ _ hgl.symm]
      have := cf_le (fin g).2
      omega
    · show ((fin g).1.map _).length < _
      rw [List.length_map]
      omega
    · show (nows (fin g).2 0).length < _
      rw [nows_len]
      omega
  · exact ⟨_, Make_bad h, rMake_bad h hpr', by simp⟩
end FU
end Go.Proofs.Ytbcbcdbkdljjlaa
