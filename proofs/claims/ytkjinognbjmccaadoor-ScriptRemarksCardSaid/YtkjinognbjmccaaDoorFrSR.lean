/-
    Lines that say nothing, put between any lines, change nothing but the line of an error. Conditions: texts of at most 100 lines of 120 bytes; others are let go by it.
-/
import Derived.Test.YtkjinognbjmccaaDoorP21j
import Derived.Test.YtkjinognbjmccaaDoorLibS
import Derived.Test.YtkjinognbjmccaaDoorRows
import Derived.Test.YtkjinognbjmccaaDoorCards
import Derived.Test.YtkjinognbjmccaaDoorTie
import Derived.WalkKit
import Derived.ProofKit
import Derived.OpenShut
import Derived.ShutString
import Derived.ChangeOld
import Derived.Below
import Derived.Carry
import Derived.SevenTiedAt
set_option linter.unusedSimpArgs false
set_option linter.unusedVariables false
set_option linter.unusedSectionVars false
namespace Go.Proofs.YtkjinognbjmccaaDoor.scriptRemarks
open Go.ChangeShapes Go.WideShapes Go.ChangeAt Go.RowKit
set_option linter.unusedVariables false
theorem own : ownKnob Tryd.prog.godebug = none := by kernel_rfl
theorem laidOut : laidOutB Tryd.prog = true := by kernel_rfl
set_option maxRecDepth 100000 in
theorem glw {W : World} (hL : laidMetH Tryd.prog Rows.scriptRemarksRow.laid W) (hsh : W.ShapedOpen Tryd.prog) : GLW Tryd.prog W := by
  rw [MakeChecks.laidMetH_plain _ _ _ (by kernel_rfl)] at hL
  have l0 : laidMet Tryd.prog Rows.scriptRemarksRow.laid W := hL
  have l1 := l0.tail
  have l2 := l1.tail
  have l3 := l2.tail
  have l4 := l3.tail
  have l5 := l4.tail
  have l6 := l5.tail
  have t10 : Lib.TabIs Tryd.prog W "internal/strconv.uint64pow10" .u64 Lib.pow10Tab := Lib.tabIs_of_head (show Tryd.prog.globalNamed "internal/strconv.uint64pow10" = some 0 by kernel_rfl) (show (Tryd.prog.globals[0]?).map (·.type) = some 101 by kernel_rfl) Tryd.underlying101 Tryd.underlying74 (by kernel_rfl) (by kernel_rfl) l2
  have star : ("*errors.errorString" : String) = "*" ++ "errors.errorString" := by decide
  have hrow : ∀ u, Tryd.prog.typeName? 3 u = some "*errors.errorString" → u = 129 := fun u h => typeName_ptr_named (nm := "errors.errorString") (by rw [← star]; kernel_rfl) (by kernel_rfl) (by decide) u (by rw [← star]; exact h)
  obtain ⟨_, _, v0, _⟩ := laid_sentinel l5 (show Tryd.prog.globalNamed "strconv.ErrSyntax" = some 6 by kernel_rfl) (show (Tryd.prog.globals[6]?).map (·.type) = some 46 by kernel_rfl) Tryd.underlying46 hrow Tryd.underlying129 Tryd.underlying131 rfl rfl Tryd.underlying9 (by kernel_rfl) (by kernel_rfl)
  obtain ⟨_, _, v1, _⟩ := laid_sentinel l4 (show Tryd.prog.globalNamed "strconv.ErrRange" = some 7 by kernel_rfl) (show (Tryd.prog.globals[7]?).map (·.type) = some 46 by kernel_rfl) Tryd.underlying46 hrow Tryd.underlying129 Tryd.underlying131 rfl rfl Tryd.underlying9 (by kernel_rfl) (by kernel_rfl)
  have hm : ∃ cs e z, W.heap[1]? = some (.cells cs e z) ∧ ∃ m, cs.toList = [.int .i64 m] := gl_int (zero := #[.int .i64 0]) hsh (of_decide_eq_true (by kernel_rfl)) (by kernel_rfl) rfl (by kernel_rfl) (by kernel_rfl) Tryd.underlying3
  exact GLW.of (fun g hg => let ⟨e, z, h⟩ := gl_row t10 hg; ⟨_, e, z, h, by simp [Lib.pow10Tab]⟩) (fun g hg => let ⟨e, z, h⟩ := gl_row v0 hg; ⟨_, e, z, h, _, _, rfl⟩) (fun g hg => let ⟨e, z, h⟩ := gl_row v1 hg; ⟨_, e, z, h, _, _, rfl⟩) (fun g hg => by obtain rfl := Option.some.inj ((show Tryd.prog.globalNamed "internal/bytealg.MaxLen" = some 1 by kernel_rfl).symm.trans hg); exact hm)
set_option maxRecDepth 100000 in
theorem lifted (os : Os) (started : os.Started) (H : Type) (enc : TypeId × Value → H) :
    ReturnsInHanded {} Tryd.checked os 5 .any (fun w args => (Rows.scriptRemarksSpec.pre enc Tryd.prog Tryd.f5 Rows.scriptRemarksRow.domain false w args ∧ laidMetH Tryd.prog Rows.scriptRemarksRow.laid w) ∧ sizedMet enc Tryd.prog Tryd.f5 (OpenSpec.ofChange Rows.scriptRemarksSpec) false w args) (Rows.scriptRemarksSpec.post enc Tryd.prog Tryd.f5 false true false false) := by
  refine handed_both (C := Tryd.checked) (X := fun w _ => laidMetH Tryd.prog Rows.scriptRemarksRow.laid w) (fun _ _ _ hh h => h.of_heap hh) own started (by kernel_rfl) Tryd.func5
    (ChangeSpec.witness_shaped (enc := enc) (C := Tryd.checked) (os := os) (X := fun w _ => laidMetH Tryd.prog Rows.scriptRemarksRow.laid w) false (World.laidAll Tryd.prog os Rows.scriptRemarksRow.laid) #[.string ⟨#[]⟩, .slice none 0 0] 8 (World.laidAll_os _ _ _)
      (World.shaped_of_ZipB (by kernel_rfl) (by kernel_rfl)) (by kernel_rfl) (by kernel_rfl) (by kernel_rfl) (by rw [MakeChecks.laidMetH_plain _ _ _ (by kernel_rfl)]; exact laidMet_laidAll _ (by kernel_rfl) (by kernel_rfl))) ?_
  intro W base args ds gs before hval0 hW hL hsh
  have hg := glw hL hsh
  have hval : ∀ (j : Nat) t v, Tryd.f5.params[j]? = some t → args[j]? = some v → Value.okWide Tryd.prog W .any base t v := hval0
  have hW' := hW
  obtain ⟨p, q, hA0, hV, rfl, hfz, hnd⟩ := hW
  have hA : DataW.TrodAll enc Tryd.prog W 0 (fun _ => true) true Tryd.f5.params.toList args.toList ds p := hA0
  rw [Tryd.params5] at hA hval
  obtain ⟨v0, vs0, d0, ds0, p0, q0, hargs, rfl, rfl, h0, r0⟩ := trodAll_cons hA
  obtain ⟨v1, vs1, d1, ds1, p1, q1, rfl, rfl, rfl, h1, r1⟩ := trodAll_cons r0
  obtain ⟨rfl, rfl, rfl⟩ := trodAll_nil r1
  obtain rfl : args = #[v0, v1] := by cases args; simp_all
  obtain ⟨rfl, rfl⟩ := trodVars_none hV
  have k0 := h0
  have lt0 : ∀ x ∈ p0, x.block < W.heap.size := by obtain ⟨m, hm⟩ := k0; exact DataW.trod_lt m _ _ _ hm
  obtain ⟨x0, o0, e0⟩ := open_dat (α := GStr) (β := noG) (ow := GoOwn) own_none (by kernel_rfl) (by kernel_rfl) (hval 0 9 v0 rfl rfl) h0
  rw [show aggT Tryd.prog 9 = false from by kernel_rfl] at e0
  have k1 := h1
  have lt1 : ∀ x ∈ p1, x.block < W.heap.size := by obtain ⟨m, hm⟩ := k1; exact DataW.trod_lt m _ _ _ hm
  obtain ⟨x1, o1, e1⟩ := open_dat (α := List UInt8) (β := noG) (ow := GoOwn) own_none (by kernel_rfl) (by kernel_rfl) (hval 1 34 v1 rfl rfl) h1
  rw [show aggT Tryd.prog 34 = false from by kernel_rfl] at e1
  clear hA0 hval0
  have hlaw : f_backwashlaw21_ScriptRemarks x0.s x1 = some true := ScriptRemarks_all x0 x1 o0 o1
  refine (calls_pure (by kernel_rfl) (f_backwashlaw21_ScriptRemarks_ok x0.s x1 true hlaw) W hg [_, _] (by simp only [repL]; exact ⟨e0, e1, trivial⟩)).mono fun e W' ⟨he, bel⟩ => ?_
  subst he
  exact ⟨_, rfl, _, _, _, [], _, [], hW', trodAll_mk1 (shut_bool Tryd.underlying4 _), (trodAll_cons_mk (Below.trod laidOut (by kernel_rfl) (of_decide_eq_true (by kernel_rfl)) k0 bel lt0) (trodAll_cons_mk (Below.trod laidOut (by kernel_rfl) (of_decide_eq_true (by kernel_rfl)) k1 bel lt1) trodAll_mk0)), rfl, bel.frame _, fun h => by cases h⟩
theorem fact0 : Rows.scriptRemarksRow.wf (OpenSpec.ofChange Rows.scriptRemarksSpec) = true := by kernel_rfl
theorem fact2 : mapsRowed Tryd.prog = true := by kernel_rfl
theorem fact3 : Tryd.f5.params.all (Tryd.prog.readableRec ·) = true := by kernel_rfl
theorem fact4 : namedTie Tryd.prog Rows.scriptRemarksRow.named Rows.scriptRemarksSpec.vars = true := by kernel_rfl
theorem fact5 : (Rows.scriptRemarksRow.stops == []) = true := by kernel_rfl
theorem fact6 : (Tryd.prog.stops == []) = true := by kernel_rfl
theorem fact7 : (Rows.scriptRemarksRow.knobs == []) = true := by kernel_rfl
theorem fact8 : (Tryd.prog.stopKnobs == []) = true := by kernel_rfl
theorem fact9 : (Rows.scriptRemarksRow.inPlace == Tryd.prog.inPlace 5) = true := by kernel_rfl
theorem fact10 : (Rows.scriptRemarksRow.unfollowed == Tryd.prog.unfollowed 5) = true := by kernel_rfl
theorem fact11 : (Rows.scriptRemarksRow.recurses == Tryd.prog.recurses 5) = true := by kernel_rfl
theorem fact12 : (Rows.scriptRemarksRow.named == Tryd.prog.varsNamed 5) = true := by kernel_rfl
theorem fact13 : (Rows.scriptRemarksRow.maps == (Tryd.f5.params.toList ++ Rows.scriptRemarksSpec.plain.varTypes Tryd.prog).any (Tryd.prog.mapsRec ·)) = true := by kernel_rfl
theorem fact14 : (Rows.scriptRemarksRow.ifaces == (Tryd.f5.params.toList ++ Rows.scriptRemarksSpec.plain.varTypes Tryd.prog).any (Tryd.prog.ifacesRec ·)) = true := by kernel_rfl
theorem fact15 : (Rows.scriptRemarksRow.mapsOut == Tryd.prog.mapsAmong Tryd.f5.resultTypes.toList) = true := by kernel_rfl
theorem fact16 : (Rows.scriptRemarksRow.loops == (Tryd.f5.params.toList ++ Rows.scriptRemarksSpec.plain.varTypes Tryd.prog).any (Tryd.prog.loopsFrom ·)) = true := by kernel_rfl
theorem fact17 : (Rows.scriptRemarksRow.wideKeys == (Tryd.f5.params.toList ++ Rows.scriptRemarksSpec.plain.varTypes Tryd.prog ++ Tryd.f5.resultTypes.toList).any (Tryd.prog.wideKeysFrom ·)) = true := by kernel_rfl
theorem fact18 : Rows.scriptRemarksSpec.vars.all (Tryd.prog.varReadable ·) = true := by kernel_rfl
theorem fact19 : Tryd.f5.resultTypes.all (fun t => Tryd.prog.readableRec t && decide (t < Tryd.prog.types.size)) = true := by kernel_rfl
theorem fact20 : (Rows.scriptRemarksRow.ifacesOut == Tryd.f5.resultTypes.toList.any (Tryd.prog.ifacesRec ·)) = true := by kernel_rfl
theorem fact21 : (Rows.scriptRemarksRow.loopsOut == Tryd.f5.resultTypes.toList.any (Tryd.prog.loopsFrom ·)) = true := by kernel_rfl
theorem fact22 : (Rows.scriptRemarksRow.plainKeys == Tryd.prog.plainKeys) = true := by kernel_rfl
theorem fact23 : Rows.scriptRemarksRow.shortTexts.isNone = true := by kernel_rfl
theorem fact24 : Tryd.prog.stopsHeard = true := by kernel_rfl
theorem fact25 : Tryd.prog.mayEnter = true := by kernel_rfl
theorem fact26 : (Rows.scriptRemarksRow.lifted == Tryd.prog.liftsFinal) = true := by kernel_rfl
theorem fact27 : (Tryd.prog.make == some Rows.scriptRemarksRow.make) = true := by kernel_rfl
theorem fact28 : (Rows.scriptRemarksRow.kinds == (if Rows.scriptRemarksRow.domain.isEmpty then [] else Tryd.f5.params.toList.map fun t => match Tryd.prog.underlying t with | some (.int k) => some k | _ => none)) = true := by kernel_rfl
theorem fact29 : (Rows.scriptRemarksRow.pinned == Rows.scriptRemarksRow.pinnedBy) = true := by kernel_rfl
theorem fact30 : (Rows.scriptRemarksRow.veiled == (Tryd.f5.params.toList ++ Rows.scriptRemarksSpec.plain.varTypes Tryd.prog ++ Tryd.f5.resultTypes.toList).any (Tryd.prog.veiledRec ·)) = true := by kernel_rfl
theorem fact31 : Rows.scriptRemarksRow.veiledFits Tryd.prog Tryd.f5.params.toList (Tryd.f5.params.toList ++ Rows.scriptRemarksSpec.plain.varTypes Tryd.prog ++ Tryd.f5.resultTypes.toList) = true := by kernel_rfl
theorem fact1 : laidOutB Tryd.prog = true := laidOut
theorem both {a b : Bool} (h : a = true) (k : b = true) : (a && b) = true := by rw [h, k]; rfl
set_option maxRecDepth 100000 in
theorem closed : joinedFacts Tryd.prog 5 Tryd.f5 Rows.scriptRemarksSpec Rows.scriptRemarksRow = true := by unfold joinedFacts; exact (both (both (both (both (both (both (both (both (both (both (both (both (both (both (both (both (both (both (both (both (both (both (both (both (both (both (both (both (both (both (both fact0 fact1) fact2) fact3) fact4) fact5) fact6) fact7) fact8) fact9) fact10) fact11) fact12) fact13) fact14) fact15) fact16) fact17) fact18) fact19) fact20) fact21) fact22) fact23) fact24) fact25) fact26) fact27) fact28) fact29) fact30) fact31)
theorem over : Rows.scriptRemarksRow.holds Tryd.pinned (OpenSpec.ofChange Rows.scriptRemarksSpec) :=
  OpenClaim.holds_of_wide 5 Tryd.f5 rfl rfl rfl rfl rfl rfl rfl ⟨rfl, rfl, rfl, rfl, rfl⟩ rfl rfl rfl rfl rfl (by kernel_rfl) Tryd.func5 closed
    (of_decide_eq_true (by kernel_rfl)) (by unfold Func.isWrapper; first | (rw [if_pos (by decide +kernel)]; kernel_rfl) | (rw [if_neg (by decide +kernel)]; exact ⟨rfl, rfl⟩))
    (fun os started H enc _ => lifted os started H enc)
theorem proved : Rows.ScriptRemarksCardSaid :=
  Claim7.holds_tied_plain_at .later [] [.data, .data, .data, .data, .sentinel, .sentinel, .pinned] true (true, "123e0a5cdd10c59d45f71523b69dee89a3fabddab513d3fd767ffedac006cac3") true over (fun _ h => by cases h) (by kernel_rfl) (fun _ h => by cases h) scriptRemarks_row_tie rfl ⟨rfl, rfl⟩ (by kernel_rfl) rfl
    (fun f fn hf hfn => by
      obtain rfl : f = 5 := Option.some.inj ((show Tryd.prog.funcNamed "backwash/backwashlaw21.ScriptRemarks" = some 5 by kernel_rfl).symm.trans hf) |>.symm
      obtain rfl : fn = Tryd.f5 := (Option.some.inj (Tryd.func5.symm.trans hfn)).symm
      exact ⟨by kernel_rfl, fun j t ht => by
        rw [Tryd.params5] at ht
        have hm : t ∈ [9, 34] := by simpa using Array.mem_of_getElem? ht
        have hall : ([9, 34].all fun u => !Tryd.prog.wantsStandIn u) = true := by kernel_rfl
        exact (show Tryd.prog.wantsStandIn t = false by simpa using List.all_eq_true.1 hall t hm)⟩)
    (by kernel_rfl)
#print axioms proved
end Go.Proofs.YtkjinognbjmccaaDoor.scriptRemarks
