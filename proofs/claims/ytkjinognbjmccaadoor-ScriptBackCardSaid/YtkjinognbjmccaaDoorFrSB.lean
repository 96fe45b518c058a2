/-
    Acts that are shown are read as they were; what is read is shown in one form, which is read as the same, if it can be shown. Conditions: at most 600 acts, of a text its first 4000 bytes.
-/
import Derived.Test.YtkjinognbjmccaaDoorP21j
import Derived.Test.YtkjinognbjmccaaDoorLibS
import Derived.Test.YtkjinognbjmccaaDoorRows
import Derived.Test.YtkjinognbjmccaaDoorCards
import Derived.Test.YtkjinognbjmccaaDoorTie
import Derived.WalkKit
import Derived.ProofKit
import Derived.OpenShut
import Derived.ShutString
import Derived.ChangeOld
import Derived.Below
import Derived.Carry
import Derived.SevenTiedAt
set_option linter.unusedSimpArgs false
set_option linter.unusedVariables false
set_option linter.unusedSectionVars false
namespace Go.Proofs.YtkjinognbjmccaaDoor.scriptBack
open Go.ChangeShapes Go.WideShapes Go.ChangeAt Go.RowKit
set_option linter.unusedVariables false
theorem own : ownKnob Tryd.prog.godebug = none := by kernel_rfl
theorem laidOut : laidOutB Tryd.prog = true := by kernel_rfl
set_option maxRecDepth 100000 in
theorem glw {W : World} (hL : laidMetH Tryd.prog Rows.scriptBackRow.laid W) (hsh : W.ShapedOpen Tryd.prog) : GLW Tryd.prog W := by
  rw [MakeChecks.laidMetH_plain _ _ _ (by kernel_rfl)] at hL
  have l0 : laidMet Tryd.prog Rows.scriptBackRow.laid W := hL
  have l1 := l0.tail
  have l2 := l1.tail
  have l3 := l2.tail
  have l4 := l3.tail
  have l5 := l4.tail
  have l6 := l5.tail
  have t10 : Lib.TabIs Tryd.prog W "internal/strconv.uint64pow10" .u64 Lib.pow10Tab := Lib.tabIs_of_head (show Tryd.prog.globalNamed "internal/strconv.uint64pow10" = some 0 by kernel_rfl) (show (Tryd.prog.globals[0]?).map (·.type) = some 101 by kernel_rfl) Tryd.underlying101 Tryd.underlying74 (by kernel_rfl) (by kernel_rfl) l2
  have star : ("*errors.errorString" : String) = "*" ++ "errors.errorString" := by decide
  have hrow : ∀ u, Tryd.prog.typeName? 3 u = some "*errors.errorString" → u = 129 := fun u h => typeName_ptr_named (nm := "errors.errorString") (by rw [← star]; kernel_rfl) (by kernel_rfl) (by decide) u (by rw [← star]; exact h)
  obtain ⟨_, _, v0, _⟩ := laid_sentinel l5 (show Tryd.prog.globalNamed "strconv.ErrSyntax" = some 6 by kernel_rfl) (show (Tryd.prog.globals[6]?).map (·.type) = some 46 by kernel_rfl) Tryd.underlying46 hrow Tryd.underlying129 Tryd.underlying131 rfl rfl Tryd.underlying9 (by kernel_rfl) (by kernel_rfl)
  obtain ⟨_, _, v1, _⟩ := laid_sentinel l4 (show Tryd.prog.globalNamed "strconv.ErrRange" = some 7 by kernel_rfl) (show (Tryd.prog.globals[7]?).map (·.type) = some 46 by kernel_rfl) Tryd.underlying46 hrow Tryd.underlying129 Tryd.underlying131 rfl rfl Tryd.underlying9 (by kernel_rfl) (by kernel_rfl)
  have hm : ∃ cs e z, W.heap[1]? = some (.cells cs e z) ∧ ∃ m, cs.toList = [.int .i64 m] := gl_int (zero := #[.int .i64 0]) hsh (of_decide_eq_true (by kernel_rfl)) (by kernel_rfl) rfl (by kernel_rfl) (by kernel_rfl) Tryd.underlying3
  exact GLW.of (fun g hg => let ⟨e, z, h⟩ := gl_row t10 hg; ⟨_, e, z, h, by simp [Lib.pow10Tab]⟩) (fun g hg => let ⟨e, z, h⟩ := gl_row v0 hg; ⟨_, e, z, h, _, _, rfl⟩) (fun g hg => let ⟨e, z, h⟩ := gl_row v1 hg; ⟨_, e, z, h, _, _, rfl⟩) (fun g hg => by obtain rfl := Option.some.inj ((show Tryd.prog.globalNamed "internal/bytealg.MaxLen" = some 1 by kernel_rfl).symm.trans hg); exact hm)
set_option maxRecDepth 100000 in
theorem lifted (os : Os) (started : os.Started) (H : Type) (enc : TypeId × Value → H) :
    ReturnsInHanded {} Tryd.checked os 4 .any (fun w args => (Rows.scriptBackSpec.pre enc Tryd.prog Tryd.f4 Rows.scriptBackRow.domain false w args ∧ laidMetH Tryd.prog Rows.scriptBackRow.laid w) ∧ sizedMet enc Tryd.prog Tryd.f4 (OpenSpec.ofChange Rows.scriptBackSpec) false w args) (Rows.scriptBackSpec.post enc Tryd.prog Tryd.f4 false true false false) := by
  refine handed_both (C := Tryd.checked) (X := fun w _ => laidMetH Tryd.prog Rows.scriptBackRow.laid w) (fun _ _ _ hh h => h.of_heap hh) own started (by kernel_rfl) Tryd.func4
    (ChangeSpec.witness_shaped (enc := enc) (C := Tryd.checked) (os := os) (X := fun w _ => laidMetH Tryd.prog Rows.scriptBackRow.laid w) false (World.laidAll Tryd.prog os Rows.scriptBackRow.laid) #[.slice none 0 0, .string ⟨#[]⟩] 8 (World.laidAll_os _ _ _)
      (World.shaped_of_ZipB (by kernel_rfl) (by kernel_rfl)) (by kernel_rfl) (by kernel_rfl) (by kernel_rfl) (by rw [MakeChecks.laidMetH_plain _ _ _ (by kernel_rfl)]; exact laidMet_laidAll _ (by kernel_rfl) (by kernel_rfl))) ?_
  intro W base args ds gs before hval0 hW hL hsh
  have hg := glw hL hsh
  have hval : ∀ (j : Nat) t v, Tryd.f4.params[j]? = some t → args[j]? = some v → Value.okWide Tryd.prog W .any base t v := hval0
  have hW' := hW
  obtain ⟨p, q, hA0, hV, rfl, hfz, hnd⟩ := hW
  have hA : DataW.TrodAll enc Tryd.prog W 0 (fun _ => true) true Tryd.f4.params.toList args.toList ds p := hA0
  rw [Tryd.params4] at hA hval
  obtain ⟨v0, vs0, d0, ds0, p0, q0, hargs, rfl, rfl, h0, r0⟩ := trodAll_cons hA
  obtain ⟨v1, vs1, d1, ds1, p1, q1, rfl, rfl, rfl, h1, r1⟩ := trodAll_cons r0
  obtain ⟨rfl, rfl, rfl⟩ := trodAll_nil r1
  obtain rfl : args = #[v0, v1] := by cases args; simp_all
  obtain ⟨rfl, rfl⟩ := trodVars_none hV
  have k0 := h0
  have lt0 : ∀ x ∈ p0, x.block < W.heap.size := by obtain ⟨m, hm⟩ := k0; exact DataW.trod_lt m _ _ _ hm
  obtain ⟨x0, o0, e0⟩ := open_dat (α := List GAct) (β := noG) (ow := GoOwn) own_none (by kernel_rfl) (by kernel_rfl) (hval 0 22 v0 rfl rfl) h0
  rw [show aggT Tryd.prog 22 = false from by kernel_rfl] at e0
  have k1 := h1
  have lt1 : ∀ x ∈ p1, x.block < W.heap.size := by obtain ⟨m, hm⟩ := k1; exact DataW.trod_lt m _ _ _ hm
  obtain ⟨x1, o1, e1⟩ := open_dat (α := GStr) (β := noG) (ow := GoOwn) own_none (by kernel_rfl) (by kernel_rfl) (hval 1 9 v1 rfl rfl) h1
  rw [show aggT Tryd.prog 9 = false from by kernel_rfl] at e1
  clear hA0 hval0
  have hlaw : f_backwashlaw21_ScriptBack x0 x1.s = some true := ScriptBack_all x0 x1 o0 o1
  refine (calls_pure (by kernel_rfl) (f_backwashlaw21_ScriptBack_ok x0 x1.s true hlaw) W hg [_, _] (by simp only [repL]; exact ⟨e0, e1, trivial⟩)).mono fun e W' ⟨he, bel⟩ => ?_
  subst he
  exact ⟨_, rfl, _, _, _, [], _, [], hW', trodAll_mk1 (shut_bool Tryd.underlying4 _), (trodAll_cons_mk (Below.trod laidOut (by kernel_rfl) (of_decide_eq_true (by kernel_rfl)) k0 bel lt0) (trodAll_cons_mk (Below.trod laidOut (by kernel_rfl) (of_decide_eq_true (by kernel_rfl)) k1 bel lt1) trodAll_mk0)), rfl, bel.frame _, fun h => by cases h⟩
theorem fact0 : Rows.scriptBackRow.wf (OpenSpec.ofChange Rows.scriptBackSpec) = true := by kernel_rfl
theorem fact2 : mapsRowed Tryd.prog = true := by kernel_rfl
theorem fact3 : Tryd.f4.params.all (Tryd.prog.readableRec ·) = true := by kernel_rfl
theorem fact4 : namedTie Tryd.prog Rows.scriptBackRow.named Rows.scriptBackSpec.vars = true := by kernel_rfl
theorem fact5 : (Rows.scriptBackRow.stops == []) = true := by kernel_rfl
theorem fact6 : (Tryd.prog.stops == []) = true := by kernel_rfl
theorem fact7 : (Rows.scriptBackRow.knobs == []) = true := by kernel_rfl
theorem fact8 : (Tryd.prog.stopKnobs == []) = true := by kernel_rfl
theorem fact9 : (Rows.scriptBackRow.inPlace == Tryd.prog.inPlace 4) = true := by kernel_rfl
theorem fact10 : (Rows.scriptBackRow.unfollowed == Tryd.prog.unfollowed 4) = true := by kernel_rfl
theorem fact11 : (Rows.scriptBackRow.recurses == Tryd.prog.recurses 4) = true := by kernel_rfl
theorem fact12 : (Rows.scriptBackRow.named == Tryd.prog.varsNamed 4) = true := by kernel_rfl
theorem fact13 : (Rows.scriptBackRow.maps == (Tryd.f4.params.toList ++ Rows.scriptBackSpec.plain.varTypes Tryd.prog).any (Tryd.prog.mapsRec ·)) = true := by kernel_rfl
theorem fact14 : (Rows.scriptBackRow.ifaces == (Tryd.f4.params.toList ++ Rows.scriptBackSpec.plain.varTypes Tryd.prog).any (Tryd.prog.ifacesRec ·)) = true := by kernel_rfl
theorem fact15 : (Rows.scriptBackRow.mapsOut == Tryd.prog.mapsAmong Tryd.f4.resultTypes.toList) = true := by kernel_rfl
theorem fact16 : (Rows.scriptBackRow.loops == (Tryd.f4.params.toList ++ Rows.scriptBackSpec.plain.varTypes Tryd.prog).any (Tryd.prog.loopsFrom ·)) = true := by kernel_rfl
theorem fact17 : (Rows.scriptBackRow.wideKeys == (Tryd.f4.params.toList ++ Rows.scriptBackSpec.plain.varTypes Tryd.prog ++ Tryd.f4.resultTypes.toList).any (Tryd.prog.wideKeysFrom ·)) = true := by kernel_rfl
theorem fact18 : Rows.scriptBackSpec.vars.all (Tryd.prog.varReadable ·) = true := by kernel_rfl
theorem fact19 : Tryd.f4.resultTypes.all (fun t => Tryd.prog.readableRec t && decide (t < Tryd.prog.types.size)) = true := by kernel_rfl
theorem fact20 : (Rows.scriptBackRow.ifacesOut == Tryd.f4.resultTypes.toList.any (Tryd.prog.ifacesRec ·)) = true := by kernel_rfl
theorem fact21 : (Rows.scriptBackRow.loopsOut == Tryd.f4.resultTypes.toList.any (Tryd.prog.loopsFrom ·)) = true := by kernel_rfl
theorem fact22 : (Rows.scriptBackRow.plainKeys == Tryd.prog.plainKeys) = true := by kernel_rfl
theorem fact23 : Rows.scriptBackRow.shortTexts.isNone = true := by kernel_rfl
theorem fact24 : Tryd.prog.stopsHeard = true := by kernel_rfl
theorem fact25 : Tryd.prog.mayEnter = true := by kernel_rfl
theorem fact26 : (Rows.scriptBackRow.lifted == Tryd.prog.liftsFinal) = true := by kernel_rfl
theorem fact27 : (Tryd.prog.make == some Rows.scriptBackRow.make) = true := by kernel_rfl
theorem fact28 : (Rows.scriptBackRow.kinds == (if Rows.scriptBackRow.domain.isEmpty then [] else Tryd.f4.params.toList.map fun t => match Tryd.prog.underlying t with | some (.int k) => some k | _ => none)) = true := by kernel_rfl
theorem fact29 : (Rows.scriptBackRow.pinned == Rows.scriptBackRow.pinnedBy) = true := by kernel_rfl
theorem fact30 : (Rows.scriptBackRow.veiled == (Tryd.f4.params.toList ++ Rows.scriptBackSpec.plain.varTypes Tryd.prog ++ Tryd.f4.resultTypes.toList).any (Tryd.prog.veiledRec ·)) = true := by kernel_rfl
theorem fact31 : Rows.scriptBackRow.veiledFits Tryd.prog Tryd.f4.params.toList (Tryd.f4.params.toList ++ Rows.scriptBackSpec.plain.varTypes Tryd.prog ++ Tryd.f4.resultTypes.toList) = true := by kernel_rfl
theorem fact1 : laidOutB Tryd.prog = true := laidOut
theorem both {a b : Bool} (h : a = true) (k : b = true) : (a && b) = true := by rw [h, k]; rfl
set_option maxRecDepth 100000 in
theorem closed : joinedFacts Tryd.prog 4 Tryd.f4 Rows.scriptBackSpec Rows.scriptBackRow = true := by unfold joinedFacts; exact (both (both (both (both (both (both (both (both (both (both (both (both (both (both (both (both (both (both (both (both (both (both (both (both (both (both (both (both (both (both (both fact0 fact1) fact2) fact3) fact4) fact5) fact6) fact7) fact8) fact9) fact10) fact11) fact12) fact13) fact14) fact15) fact16) fact17) fact18) fact19) fact20) fact21) fact22) fact23) fact24) fact25) fact26) fact27) fact28) fact29) fact30) fact31)
theorem over : Rows.scriptBackRow.holds Tryd.pinned (OpenSpec.ofChange Rows.scriptBackSpec) :=
  OpenClaim.holds_of_wide 4 Tryd.f4 rfl rfl rfl rfl rfl rfl rfl ⟨rfl, rfl, rfl, rfl, rfl⟩ rfl rfl rfl rfl rfl (by kernel_rfl) Tryd.func4 closed
    (of_decide_eq_true (by kernel_rfl)) (by unfold Func.isWrapper; first | (rw [if_pos (by decide +kernel)]; kernel_rfl) | (rw [if_neg (by decide +kernel)]; exact ⟨rfl, rfl⟩))
    (fun os started H enc _ => lifted os started H enc)
theorem proved : Rows.ScriptBackCardSaid :=
  Claim7.holds_tied_plain_at .later [] [.data, .data, .data, .data, .sentinel, .sentinel, .pinned] true (true, "123e0a5cdd10c59d45f71523b69dee89a3fabddab513d3fd767ffedac006cac3") true over (fun _ h => by cases h) (by kernel_rfl) (fun _ h => by cases h) scriptBack_row_tie rfl ⟨rfl, rfl⟩ (by kernel_rfl) rfl
    (fun f fn hf hfn => by
      obtain rfl : f = 4 := Option.some.inj ((show Tryd.prog.funcNamed "backwash/backwashlaw21.ScriptBack" = some 4 by kernel_rfl).symm.trans hf) |>.symm
      obtain rfl : fn = Tryd.f4 := (Option.some.inj (Tryd.func4.symm.trans hfn)).symm
      exact ⟨by kernel_rfl, fun j t ht => by
        rw [Tryd.params4] at ht
        have hm : t ∈ [22, 9] := by simpa using Array.mem_of_getElem? ht
        have hall : ([22, 9].all fun u => !Tryd.prog.wantsStandIn u) = true := by kernel_rfl
        exact (show Tryd.prog.wantsStandIn t = false by simpa using List.all_eq_true.1 hall t hm)⟩)
    (by kernel_rfl)
#print axioms proved
end Go.Proofs.YtkjinognbjmccaaDoor.scriptBack
