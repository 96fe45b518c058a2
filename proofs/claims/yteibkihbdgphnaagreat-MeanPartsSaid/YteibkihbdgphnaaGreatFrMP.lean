/-
    The law MeanParts of layer 12 holds for every input: of a graph all of whose operators are linear what it means of feeds is what it means of some of them and of the others, together. No conditions beyond the statement's own.
-/
import Derived.Test.YteibkihbdgphnaaGreatP12D
import Derived.Test.YteibkihbdgphnaaGreatRows
import Derived.WalkKit
import Derived.ProofKit
import Derived.OpenShut
import Derived.ShutString
import Derived.ChangeOld
import Derived.Below
import Derived.Carry
set_option linter.unusedSimpArgs false
set_option linter.unusedVariables false
set_option linter.unusedSectionVars false
namespace Go.Proofs.YteibkihbdgphnaaGreat.meanParts
open Go.ChangeShapes Go.WideShapes Go.ChangeAt Go.RowKit
set_option linter.unusedVariables false
theorem own : ownKnob Tryz.prog.godebug = none := by kernel_rfl
theorem laidOut : laidOutB pp = true := by kernel_rfl
theorem top0 {x : AV} : z6o false [x] = x := rfl
set_option maxRecDepth 100000 in
theorem lifted (os : Os) (started : os.Started) (H : Type) (enc : TypeId × Value -> H) :
    ReturnsInHanded {} Tryz.checked os 6 .any (Rows.meanPartsSpec.pre6 enc pp Tryz.f6 Rows.meanPartsRow.domain false) (Rows.meanPartsSpec.post enc pp Tryz.f6 false true false false) := by
  refine returnsInHanded_of_change (C := Tryz.checked) own started (by kernel_rfl) Tryz.func6
    (ChangeSpec.witness6 (enc := enc) (C := Tryz.checked) false ⟨#[], #[.agg #[.slice none 0 0, .slice none 0 0, .slice none 0 0, .slice none 0 0], .slice none 0 0, .int .u64 0], []⟩ 8 (by kernel_rfl) (by kernel_rfl) (by kernel_rfl) (by kernel_rfl)) ?_
  intro W base args ds gs before hval0 hW hcnd _; have hval : ∀ (j : Nat) t v, Tryz.f6.params[j]? = some t -> args[j]? = some v -> Value.okWide pp W .any base t v := hval0; have hW' := hW; obtain ⟨p, q, hA0, hV, rfl, hfz, hnd⟩ := hW; have hA : DataW.TrodAll enc pp W 0 (fun _ => true) true Tryz.f6.params.toList args.toList ds p := hA0; rw [Tryz.params6] at hA hval; obtain ⟨v0, vs0, d0, ds0, p0, q0, hargs, rfl, rfl, h0, r0⟩ := trodAll_cons hA; obtain ⟨v1, vs1, d1, ds1, p1, q1, rfl, rfl, rfl, h1, r1⟩ := trodAll_cons r0; obtain ⟨v2, vs2, d2, ds2, p2, q2, rfl, rfl, rfl, h2, r2⟩ := trodAll_cons r1; obtain ⟨rfl, rfl, rfl⟩ := trodAll_nil r2; obtain rfl : args = #[v0, v1, v2] := by cases args; simp_all
  obtain ⟨rfl, rfl⟩ := trodVars_none hV; have k0 := h0; have lt0 : ∀ x ∈ p0, x.block < W.heap.size := by obtain ⟨m, hm⟩ := k0; exact DataW.trod_lt m _ _ _ hm
  obtain ⟨x0, o0, e0⟩ := zk5 (α := GGraph) (β := noG) (ow := GoOwn) zk3 (by kernel_rfl) (by kernel_rfl) (hval 0 26 v0 rfl rfl) h0; rw [show q5c pp 26 = true from by kernel_rfl] at e0; have k1 := h1; have lt1 : ∀ x ∈ p1, x.block < W.heap.size := by obtain ⟨m, hm⟩ := k1; exact DataW.trod_lt m _ _ _ hm
  obtain ⟨x1, o1, e1⟩ := zk5 (α := List GFeed) (β := noG) (ow := GoOwn) zk3 (by kernel_rfl) (by kernel_rfl) (hval 1 27 v1 rfl rfl) h1; rw [show q5c pp 27 = false from by kernel_rfl] at e1; have k2 := h2; have lt2 : ∀ x ∈ p2, x.block < W.heap.size := by obtain ⟨m, hm⟩ := k2; exact DataW.trod_lt m _ _ _ hm
  obtain ⟨x2, o2, e2⟩ := j45 (β := noG) (ow := GoOwn) Tryz.underlying46 (hval 2 46 v2 rfl rfl) h2; clear hA0 hval0; have hlaw : q35 x0 x1 x2 = some true := MN.MeanParts_holds x0 x1 x2 o0 o1 o2; refine (j0i (by kernel_rfl) (qu4 x0 x1 x2 true hlaw) W (GLW.none (by kernel_rfl)) [_, _, _] (by simp only [x9]; exact ⟨e0, e1, e2, trivial⟩)).mono fun e W' ⟨he, bel⟩ => ?_; subst he; exact ⟨_, rfl, _, _, _, [], _, [], hW', trodAll_mk1 (shut_bool Tryz.underlying4 _), (trodAll_cons_mk (Below.trod laidOut (by kernel_rfl) (of_decide_eq_true (by kernel_rfl)) k0 bel lt0) (trodAll_cons_mk (Below.trod laidOut (by kernel_rfl) (of_decide_eq_true (by kernel_rfl)) k1 bel lt1) (trodAll_cons_mk (Below.trod laidOut (by kernel_rfl) (of_decide_eq_true (by kernel_rfl)) k2 bel lt2) trodAll_mk0))), rfl, bel.frame _, fun h => by cases h⟩
theorem fact0 : Rows.meanPartsRow.wf (OpenSpec.ofChange Rows.meanPartsSpec) = true := by kernel_rfl
theorem fact2 : mapsRowed pp = true := by kernel_rfl
theorem fact3 : Tryz.f6.params.all (Tryz.prog.readableRec ·) = true := by kernel_rfl
theorem fact4 : namedTie pp Rows.meanPartsRow.named Rows.meanPartsSpec.vars = true := by kernel_rfl
theorem fact5 : (Rows.meanPartsRow.stops == []) = true := by kernel_rfl
theorem fact6 : (Tryz.prog.stops == []) = true := by kernel_rfl
theorem fact7 : (Rows.meanPartsRow.knobs == []) = true := by kernel_rfl
theorem fact8 : (Tryz.prog.stopKnobs == []) = true := by kernel_rfl
theorem fact9 : (Rows.meanPartsRow.inPlace == Tryz.prog.inPlace 6) = true := by kernel_rfl
theorem fact10 : (Rows.meanPartsRow.unfollowed == Tryz.prog.unfollowed 6) = true := by kernel_rfl
theorem fact11 : (Rows.meanPartsRow.recurses == Tryz.prog.recurses 6) = true := by kernel_rfl
theorem fact12 : (Rows.meanPartsRow.named == Tryz.prog.varsNamed 6) = true := by kernel_rfl
theorem fact13 : (Rows.meanPartsRow.maps == (Tryz.f6.params.toList ++ Rows.meanPartsSpec.plain.varTypes pp).any (Tryz.prog.mapsRec ·)) = true := by kernel_rfl
theorem fact14 : (Rows.meanPartsRow.ifaces == (Tryz.f6.params.toList ++ Rows.meanPartsSpec.plain.varTypes pp).any (Tryz.prog.ifacesRec ·)) = true := by kernel_rfl
theorem fact15 : (Rows.meanPartsRow.mapsOut == Tryz.prog.mapsAmong Tryz.f6.resultTypes.toList) = true := by kernel_rfl
theorem fact16 : (Rows.meanPartsRow.loops == (Tryz.f6.params.toList ++ Rows.meanPartsSpec.plain.varTypes pp).any (Tryz.prog.loopsFrom ·)) = true := by kernel_rfl
theorem fact17 : (Rows.meanPartsRow.wideKeys == (Tryz.f6.params.toList ++ Rows.meanPartsSpec.plain.varTypes pp ++ Tryz.f6.resultTypes.toList).any (Tryz.prog.wideKeysFrom ·)) = true := by kernel_rfl
theorem fact18 : Rows.meanPartsSpec.vars.all (Tryz.prog.varReadable ·) = true := by kernel_rfl
theorem fact19 : Tryz.f6.resultTypes.all (fun t => Tryz.prog.readableRec t && decide (t < Tryz.prog.types.size)) = true := by kernel_rfl
theorem fact20 : (Rows.meanPartsRow.ifacesOut == Tryz.f6.resultTypes.toList.any (Tryz.prog.ifacesRec ·)) = true := by kernel_rfl
theorem fact21 : (Rows.meanPartsRow.loopsOut == Tryz.f6.resultTypes.toList.any (Tryz.prog.loopsFrom ·)) = true := by kernel_rfl
theorem fact22 : (Rows.meanPartsRow.plainKeys == Tryz.prog.plainKeys) = true := by kernel_rfl
theorem fact23 : Rows.meanPartsRow.shortTexts.isNone = true := by kernel_rfl
theorem fact24 : Tryz.prog.stopsHeard = true := by kernel_rfl
theorem fact25 : Tryz.prog.mayEnter = true := by kernel_rfl
theorem fact26 : (Rows.meanPartsRow.lifted == Tryz.prog.liftsFinal) = true := by kernel_rfl
theorem fact27 : (Tryz.prog.make == some Rows.meanPartsRow.make) = true := by kernel_rfl
theorem fact28 : (Rows.meanPartsRow.kinds == (if Rows.meanPartsRow.domain.isEmpty then [] else Tryz.f6.params.toList.map fun t => match Tryz.prog.underlying t with | some (.int k) => some k | _ => none)) = true := by kernel_rfl
theorem fact29 : (Rows.meanPartsRow.pinned == Rows.meanPartsRow.pinnedBy) = true := by kernel_rfl
theorem fact30 : (Rows.meanPartsRow.veiled == (Tryz.f6.params.toList ++ Rows.meanPartsSpec.plain.varTypes pp ++ Tryz.f6.resultTypes.toList).any (Tryz.prog.veiledRec ·)) = true := by kernel_rfl
theorem fact31 : Rows.meanPartsRow.veiledFits pp Tryz.f6.params.toList (Tryz.f6.params.toList ++ Rows.meanPartsSpec.plain.varTypes pp ++ Tryz.f6.resultTypes.toList) = true := by kernel_rfl
theorem fact1 : laidOutB pp = true := laidOut
theorem both {a b : Bool} (h : a = true) (k : b = true) : (a && b) = true := by rw [h, k]; rfl
set_option maxRecDepth 100000 in
theorem closed : joinedFacts pp 6 Tryz.f6 Rows.meanPartsSpec Rows.meanPartsRow = true := by unfold joinedFacts; exact (both (both (both (both (both (both (both (both (both (both (both (both (both (both (both (both (both (both (both (both (both (both (both (both (both (both (both (both (both (both (both fact0 fact1) fact2) fact3) fact4) fact5) fact6) fact7) fact8) fact9) fact10) fact11) fact12) fact13) fact14) fact15) fact16) fact17) fact18) fact19) fact20) fact21) fact22) fact23) fact24) fact25) fact26) fact27) fact28) fact29) fact30) fact31)
theorem over : Rows.meanPartsRow.holds Tryz.pinned (OpenSpec.ofChange Rows.meanPartsSpec) :=
  OpenClaim.holds_of_wide 6 Tryz.f6 rfl rfl rfl rfl rfl rfl rfl ⟨rfl, rfl, rfl, rfl, rfl⟩ rfl rfl rfl rfl rfl (by kernel_rfl) Tryz.func6 closed
    (of_decide_eq_true (by kernel_rfl)) (by unfold Func.isWrapper; first | (rw [if_pos (by decide +kernel)]; kernel_rfl) | (rw [if_neg (by decide +kernel)]; exact ⟨rfl, rfl⟩))
    (fun os started H enc _ => lifted os started H enc)
theorem proved : Rows.MeanPartsSaid := over
#print axioms proved
end Go.Proofs.YteibkihbdgphnaaGreat.meanParts
