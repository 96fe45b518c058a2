/-
  The law in plain words: what its plain function gives is true. No condition beyond those that each theorem names.
-/
import Derived.Test.YthpahhhdapdcpaaP11g
import Derived.Test.YthpahhhdapdcpaaWalkOPa1
set_option linter.unusedSimpArgs false
set_option linter.unusedVariables false
namespace Go.Proofs.Ythpahhhdapdcpaa
open Go Go.RowKit BG
namespace OP
theorem OpsParts_holds (x : GNode) (a b : List GRec) (_ : Dat.ok x) (_ : Dat.ok a) (_ : Dat.ok b) : f_backwashlaw11_OpsParts x a b = some true := by
  refine Ok.eq ?_
  unfold f_backwashlaw11_OpsParts
  refine Ok.bind (Ok.of_eq awake_ok (Ok.iteB (fun h => by cases h) (fun _ => Ok.bind (Ok.of_eq (linS_eq _) (Ok.iteB (fun _ => Ok.some rfl) (fun hx => ?_))))))
  have hl : linS x.Kind = true := by
    simp only [Bool.or_eq_false_iff, Bool.not_eq_false'] at hx
    exact hx.1
  refine Ok.guard (by omega) ?_
  generalize hA : List.take (Int.toNat (min (List.length a : Int) 60)) a = A
  have lA : A.length ≤ 60 := by rw [← hA, List.length_take]; omega
  refine Ok.bind2 (Of_good lA) fun C ⟨_, C2, C3, C4, _⟩ => Ok.guard (by omega) ?_
  generalize hB : List.take (Int.toNat (min (List.length b : Int) 60)) b = B
  have lB : B.length ≤ 60 := by rw [← hB, List.length_take]; omega
  refine Ok.bind2 (Of_good lB) fun D ⟨_, D2, D3, D4, _⟩ => ?_
  refine Ok.bind2 (Plus_good C2 C3 D2 D3 (by omega)) fun W ⟨W1, W2, W3, W4⟩ => ?_
  refine Ok.bind2 (Apply_lin hl W2 W3 (by omega)) fun w ⟨w1, w2, w3⟩ => Ok.bind2 (Apply_lin hl C2 C3 (by omega)) fun c ⟨c1, c2, c3⟩ => Ok.bind2 (Apply_lin hl D2 D3 (by omega)) fun d ⟨d1, d2, d3⟩ => ?_
  rw [w1, c1, d1]
  have ct := c2.tot
  have dt := d2.tot
  have e0 : tot ([] : List GItem) = 0 := rfl
  refine Ok.iteB (fun _ => Ok.bind2 (Plus_good c2.rt (Puts.pos c2 (lin_pos C3)) d2.rt (Puts.pos d2 (lin_pos D3)) (by omega)) fun p ⟨p1, p2, p3, p4⟩ => ?_) (fun hx => by cases hx)
  have := lin_sum W1 c2 d2 w2 p1
  have hpl := p3.tot_nonneg
  rw [this]
  exact Ok.bind (Ok.of_eq (Same_refl (by omega)) (Ok.some rfl))
end OP
end Go.Proofs.Ythpahhhdapdcpaa

