/-
  The law in plain words: what its plain function gives is true. No condition beyond those that each theorem names.
-/
import Derived.Test.YthpahhhdapdcpaaP11g
import Derived.Test.YthpahhhdapdcpaaWalkOO1
set_option linter.unusedSimpArgs false
set_option linter.unusedVariables false
namespace Go.Proofs.Ythpahhhdapdcpaa
open Go Go.RowKit BG
namespace OP
theorem OpsOften_holds (x : GNode) (l : List GRec) (_ : Dat.ok x) (_ : Dat.ok l) : f_backwashlaw11_OpsOften x l = some true := by
  refine Ok.eq ?_
  unfold f_backwashlaw11_OpsOften
  refine Ok.bind (Ok.of_eq awake_ok (Ok.iteB (fun h => by cases h) (fun _ => Ok.bind (Ok.of_eq (linS_eq _) (Ok.iteB (fun _ => Ok.some rfl) (fun hx => ?_))))))
  have hl : linS x.Kind = true := by
    simp only [Bool.or_eq_false_iff, Bool.not_eq_false'] at hx
    exact hx.1
  refine Ok.guard (by omega) ?_
  generalize hA : List.take (Int.toNat (min (List.length l : Int) 60)) l = A
  have lA : A.length ≤ 60 := by rw [← hA, List.length_take]; omega
  refine Ok.bind2 (Of_good lA) fun C ⟨_, C2, C3, C4, _⟩ => ?_
  refine Ok.bind2 (Apply_lin hl C2 C3 (by omega)) fun c ⟨c1, c2, c3⟩ => ?_
  refine Ok.bind2 (Plus_good C2 C3 C2 C3 (by omega)) fun W ⟨W1, W2, W3, W4⟩ => ?_
  refine Ok.bind2 (Apply_lin hl W2 W3 (by omega)) fun w ⟨w1, w2, w3⟩ => ?_
  rw [w1, c1]
  have ct := c2.tot
  have e0 : tot ([] : List GItem) = 0 := rfl
  refine Ok.iteB (fun _ => Ok.bind2 (Plus_good c2.rt (Puts.pos c2 (lin_pos C3)) c2.rt (Puts.pos c2 (lin_pos C3)) (by omega)) fun p ⟨p1, p2, p3, p4⟩ => ?_) (fun hx => by cases hx)
  have := lin_sum W1 c2 c2 w2 p1
  have hpl := p3.tot_nonneg
  rw [this]
  exact Ok.bind (Ok.of_eq (Same_refl (by omega)) (Ok.some rfl))
end OP
end Go.Proofs.Ythpahhhdapdcpaa

