/-
  The law in plain words: what its plain function gives is true. No condition beyond those that each theorem names.
-/
import Derived.Test.YtocnabkanbifdaaGreatDoorWalkTB1
import Derived.Test.YtocnabkanbifdaaGreatDoorP23l
set_option linter.unusedSimpArgs false
set_option linter.unusedVariables false
set_option linter.unusedSectionVars false
namespace Go.Proofs.YtocnabkanbifdaaGreatDoor
open Go Go.RowKit Go.Lib
set_option maxRecDepth 100000
set_option linter.unusedVariables false
/-! What is read may be shown. -/
def goodP (g : GGraph) : Prop := showOK g ∧ argsIn g
theorem raw_in {s : GStr} (h : (numOf s.s).isSome = true) : In (raw s) := by
 unfold raw
 cases hn : numOf s.s with
 | none => rw [hn] at h; cases h
 | some m => exact (numOf_some hn).1
theorem scope_good {rv : GText_reader} (hg : goodP rv.g) {w0 w1 : GStr} (h0 : w0.s.length ≤ 1000000) (h1 : w1.s.length ≤ 1000000) : Ok (f_text_reader_scope_p0_s0_0_s0_1_s0_2_s0_3 rv [w0, w1]) (fun r => r.e = 0 → goodP r.g) := by
 obtain ⟨⟨⟨⟨ps, bs, hP, hB, hl, hl7, hps, hbs⟩, hN, hE, hNl, hEl⟩, hK⟩, ha⟩ := hg
 refine Ok.of_eq (scope_eq rv h0 h1 (by rw [hP]; simp; omega) (by rw [hB]; simp; omega)) fun he => ?_
 simp only [roomR_e, fitsR_e, allR_e] at he
 obtain ⟨⟨_, hlow⟩, hlt⟩ := he
 have c0 := hlow (cl w0) (by simp)
 have c1 := hlow (cl w1) (by simp)
 rw [hP] at hlt
 simp only [List.length_cons] at hlt
 refine ⟨⟨⟨⟨ps ++ [cl w0], bs ++ [cl w1], by rw [hP]; rfl, by rw [hB]; rfl, by simp [hl], by simp; omega, ?_, ?_⟩, hN, hE, hNl, hEl⟩, hK⟩, ha⟩
 ·
  intro p hp
  rcases List.mem_append.1 hp with hp | hp
  · exact hps p hp
  · rw [List.mem_singleton.1 hp]; exact c0
 ·
  intro p hp
  rcases List.mem_append.1 hp with hp | hp
  · exact hbs p hp
  · rw [List.mem_singleton.1 hp]; exact c1
theorem node_good {rv : GText_reader} (hg : goodP rv.g) {w0 w1 w2 : GStr} (h1 : w1.s.length ≤ 1000000) (h2 : w2.s.length ≤ 1000000) : Ok (f_text_reader_node_p0_s0_0_s0_1_s0_2_s0_3 rv [w0, w1, w2]) (fun r => r.e = 0 → goodP r.g) := by
 obtain ⟨⟨⟨hS, hN, hE, hNl, hEl⟩, hK⟩, ha⟩ := hg
 refine Ok.of_eq (node_eq rv h1 h2 (by omega)) fun he => ?_
 simp only [roomR_e, fitsR_e, num1_e, allR_e, nameR_e] at he
 obtain ⟨⟨⟨⟨⟨_, hn⟩, _⟩, hs2⟩, hlow⟩, hlt⟩ := he
 have c1 := hlow (cl w1) (by simp)
 obtain ⟨k1, k2, _⟩ := plc_some hn
 have k3 : ((kindsL.length : Nat) : Int) = 15 := rfl
 have hnew : lowN (⟨plc kindsL w0.s, cl w1, raw w2, []⟩ : GNode) := ⟨⟨by simp only; omega, by simp only; omega⟩, c1, Nat.zero_le _, by simp⟩
 refine ⟨⟨⟨hS, by simp; omega, hE, ?_, hEl⟩, ?_⟩, ?_⟩
 ·
  intro x hx
  rcases List.mem_append.1 hx with hx | hx
  · exact hNl x hx
  · rw [List.mem_singleton.1 hx]; exact hnew
 ·
  intro x hx
  rcases List.mem_append.1 hx with hx | hx
  · exact hK x hx
  · rw [List.mem_singleton.1 hx]; exact ⟨⟨k1, by simp only; omega⟩, by simp⟩
 ·
  intro x hx
  rcases List.mem_append.1 hx with hx | hx
  · exact ha x hx
  · rw [List.mem_singleton.1 hx]; exact ⟨raw_in hs2, by simp⟩
theorem edge_good {rv : GText_reader} (hg : goodP rv.g) {w0 w1 w2 w3 : GStr} (h0 : w0.s.length ≤ 1000000) (h1 : w1.s.length ≤ 1000000) (h2 : w2.s.length ≤ 1000000) : Ok (f_text_reader_edge_p0_s0_0_s0_1_s0_2_s0_3 rv [w0, w1, w2, w3]) (fun r => r.e = 0 → goodP r.g) := by
 obtain ⟨⟨⟨hS, hN, hE, hNl, hEl⟩, hK⟩, ha⟩ := hg
 refine Ok.of_eq (edge_eq rv h0 h1 h2 (by omega)) fun he => ?_
 simp only [roomR_e, fitsR_e, allR_e, nameR_e] at he
 obtain ⟨⟨_, hlow⟩, hlt⟩ := he
 refine ⟨⟨⟨hS, hN, by simp; omega, hNl, ?_⟩, hK⟩, ha⟩
 intro x hx
 rcases List.mem_append.1 hx with hx | hx
 · exact hEl x hx
 · rw [List.mem_singleton.1 hx]; exact ⟨hlow _ (by simp), hlow _ (by simp), hlow _ (by simp)⟩
theorem ins_good {rv : GText_reader} (hg : goodP rv.g) {w0 w1 : GStr} (h1 : w1.s.length ≤ 1000000) : Ok (f_text_reader_ins_p0_s0_0_s0_1_s0_2_s0_3 rv [w0, w1]) (fun r => r.e = 0 → goodP r.g) := by
 obtain ⟨⟨⟨hS, hN, hE, hNl, hEl⟩, hK⟩, ha⟩ := hg
 rcases List.eq_nil_or_concat rv.g.Nodes with h | ⟨ns, x, h⟩
 · exact (ins_eq0 rv h1 h).mono fun r hr he => absurd he hr
 ·
  have hxm : x ∈ rv.g.Nodes := by rw [h]; simp
  have hnl : ns.length ≤ 32 := by have := congrArg List.length h; simp at this; omega
  have hx := hNl x hxm
  have h' : rv.g.Nodes = ns ++ [x] := by rw [h, List.concat_eq_append]
  refine Ok.of_eq (ins_eq rv h1 h' (by omega) (by have := hx.2.2.1; omega)) fun he => ?_
  simp only [roomR_e, num1_e, nameR_e] at he
  obtain ⟨⟨⟨_, hn⟩, hs1⟩, hlt⟩ := he
  obtain ⟨k1, k2, _⟩ := plc_some hn
  have k3 : ((codesL.length : Nat) : Int) = 16 := rfl
  have hns : ∀ y ∈ ns, y ∈ rv.g.Nodes := fun y hy => by rw [h]; simp [hy]
  refine ⟨⟨⟨hS, by simp only [List.length_append, List.length_cons, List.length_nil]; have := congrArg List.length h; simp at this; omega, hE, ?_, hEl⟩, ?_⟩, ?_⟩
  ·
   intro y hy
   rcases List.mem_append.1 hy with hy | hy
   · exact hNl y (hns y hy)
   ·
    rw [List.mem_singleton.1 hy]
    refine ⟨hx.1, hx.2.1, by simp; omega, fun z hz => ?_⟩
    rcases List.mem_append.1 hz with hz | hz
    · exact hx.2.2.2 z hz
    · rw [List.mem_singleton.1 hz]; exact ⟨by simp only; omega, by simp only; omega⟩
  ·
   intro y hy
   rcases List.mem_append.1 hy with hy | hy
   · exact hK y (hns y hy)
   ·
    rw [List.mem_singleton.1 hy]
    refine ⟨(hK x hxm).1, fun z hz => ?_⟩
    rcases List.mem_append.1 hz with hz | hz
    · exact (hK x hxm).2 z hz
    · rw [List.mem_singleton.1 hz]; exact ⟨k1, by simp only; omega⟩
  ·
   intro y hy
   rcases List.mem_append.1 hy with hy | hy
   · exact ha y (hns y hy)
   ·
    rw [List.mem_singleton.1 hy]
    refine ⟨(ha x hxm).1, fun z hz => ?_⟩
    rcases List.mem_append.1 hz with hz | hz
    · exact (ha x hxm).2 z hz
    · rw [List.mem_singleton.1 hz]; exact raw_in hs1
end Go.Proofs.YtocnabkanbifdaaGreatDoor
