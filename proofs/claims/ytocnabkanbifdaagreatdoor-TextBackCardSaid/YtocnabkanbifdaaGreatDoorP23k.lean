/-
  The law in plain words: what its plain function gives is true. No condition beyond those that each theorem names.
-/
import Derived.Test.YtocnabkanbifdaaGreatDoorWalkTB1
import Derived.Test.YtocnabkanbifdaaGreatDoorP23j
set_option linter.unusedSimpArgs false
set_option linter.unusedVariables false
set_option linter.unusedSectionVars false
namespace Go.Proofs.YtocnabkanbifdaaGreatDoor
open Go Go.RowKit Go.Lib
set_option maxRecDepth 100000
set_option linter.unusedVariables false
/-! Lines of a graph, read. -/
open Classical in
noncomputable def plc (l : List (List UInt8)) (w : List UInt8) : Int := if h : ∃ k : Nat, l[k]? = some w then ((h.choose + 1 : Nat) : Int) else 0
noncomputable def nameR (l : List (List UInt8)) (w : List UInt8) (rv : GText_reader) : GText_reader := if plc l w = 0 then failR rv 4 else rv
theorem plc_at {l : List (List UInt8)} (hn : l.Nodup) {w : List UInt8} {k : Nat} (h : l[k]? = some w) : plc l w = ((k + 1 : Nat) : Int) := by
 unfold plc
 have hx : ∃ k : Nat, l[k]? = some w := ⟨k, h⟩
 rw [dif_pos hx]
 have h1 := List.getElem?_eq_some_iff.1 hx.choose_spec
 have h2 := List.getElem?_eq_some_iff.1 h
 obtain ⟨a1, a2⟩ := h1
 obtain ⟨b1, b2⟩ := h2
 have : hx.choose = k := (List.getElem_inj hn).1 (a2.trans b2.symm)
 rw [this]
theorem name_eq23 (rv : GText_reader) {l : List (List UInt8)} {w : List UInt8} (hl : l.length ≤ 100) (hn : l.Nodup) : f_text_reader_name_p0_s0_0_s0_1_s0_2_s0_3 rv (l.map GStr.mk) w = some (plc l w, nameR l w rv) := by
 refine Ok.eq ((name_spec rv hl).mono fun r hr => ?_)
 rcases hr with ⟨k, hk, rfl⟩ | ⟨hk, rfl⟩
 ·
  unfold nameR
  rw [plc_at hn hk, if_neg (by omega)]
 ·
  have : plc l w = 0 := by
   unfold plc
   rw [dif_neg]
   rintro ⟨k, h⟩
   exact hk (List.mem_of_getElem? h)
  unfold nameR
  rw [this, if_pos rfl]
theorem plc_some {l : List (List UInt8)} {w : List UInt8} (h : plc l w ≠ 0) : 1 ≤ plc l w ∧ plc l w ≤ l.length ∧ nmOf l (plc l w) = w := by
 unfold plc at h ⊢
 split at h
 ·
  rename_i hx
  rw [dif_pos hx]
  obtain ⟨a1, a2⟩ := List.getElem?_eq_some_iff.1 hx.choose_spec
  refine ⟨by omega, by omega, ?_⟩
  unfold nmOf
  rw [show (((hx.choose + 1 : Nat) : Int)).toNat - 1 = hx.choose by omega, List.getD_eq_getElem?_getD, hx.choose_spec]; rfl
 · exact absurd rfl h
theorem plc_nm {l : List (List UInt8)} (hn : l.Nodup) {n : Int} (h1 : 1 ≤ n) (h2 : n ≤ l.length) : plc l (nmOf l n) = n := by
 have : l[n.toNat - 1]? = some (nmOf l n) := by
  unfold nmOf
  rw [List.getD_eq_getElem?_getD, List.getElem?_eq_getElem (by omega)]; rfl
 rw [plc_at hn this]; omega
noncomputable def cl (s : GStr) : Int := clampR ((numOf s.s).getD 0)
noncomputable def raw (s : GStr) : Int := (numOf s.s).getD 0
noncomputable def num1 (s : GStr) (rv : GText_reader) : GText_reader := if (numOf s.s).isSome = true then rv else failR rv 4
theorem numR_eq' (rv : GText_reader) {s : GStr} (hs : s.s.length ≤ 281474976710656) : f_text_reader_number_p0_s0_0_s0_1_s0_2_s0_3 rv s.s = some (raw s, num1 s rv) := by
 rw [numR_eq rv hs]
 unfold raw num1
 cases numOf s.s <;> rfl
theorem allR_g (l : List GStr) (rv : GText_reader) : (allR l rv).g = rv.g := by unfold allR; split <;> first | rfl | exact failR_g _ _
theorem fitsR_g (l : List Int) (rv : GText_reader) : (fitsR l rv).g = rv.g := by unfold fitsR; split <;> first | rfl | exact failR_g _ _
theorem roomR_g (m n : Int) (rv : GText_reader) : (roomR m n rv).g = rv.g := by unfold roomR; split <;> first | rfl | exact failR_g _ _
theorem nameR_g (l : List (List UInt8)) (w : List UInt8) (rv : GText_reader) : (nameR l w rv).g = rv.g := by unfold nameR; split <;> first | rfl | exact failR_g _ _
theorem num1_g (s : GStr) (rv : GText_reader) : (num1 s rv).g = rv.g := by unfold num1; split <;> first | rfl | exact failR_g _ _
theorem allR_e {l : List GStr} {rv : GText_reader} : (allR l rv).e = 0 ↔ rv.e = 0 ∧ ∀ s ∈ l, (numOf s.s).isSome = true := by
 unfold allR
 split
 · rename_i h; exact ⟨fun e => ⟨e, h⟩, fun e => e.1⟩
 · rename_i h; exact ⟨fun e => absurd e (failR_e (by decide)), fun e => absurd e.2 h⟩
theorem fitsR_e {l : List Int} {rv : GText_reader} : (fitsR l rv).e = 0 ↔ rv.e = 0 ∧ ∀ x ∈ l, low x := by
 unfold fitsR
 split
 · rename_i h; exact ⟨fun e => absurd e (failR_e (by decide)), fun e => by rw [anyhi_low.2 e.2] at h; cases h⟩
 · rename_i h; exact ⟨fun e => ⟨e, anyhi_low.1 (by simpa using h)⟩, fun e => e.1⟩
theorem roomR_e {m n : Int} {rv : GText_reader} : (roomR m n rv).e = 0 ↔ rv.e = 0 ∧ m < n := by
 unfold roomR
 split
 · exact ⟨fun e => absurd e (failR_e (by decide)), fun e => by omega⟩
 · exact ⟨fun e => ⟨e, by omega⟩, fun e => e.1⟩
theorem nameR_e {l : List (List UInt8)} {w : List UInt8} {rv : GText_reader} : (nameR l w rv).e = 0 ↔ rv.e = 0 ∧ plc l w ≠ 0 := by
 unfold nameR
 split
 · rename_i h; exact ⟨fun e => absurd e (failR_e (by decide)), fun e => absurd h e.2⟩
 · rename_i h; exact ⟨fun e => ⟨e, h⟩, fun e => e.1⟩
theorem num1_e {s : GStr} {rv : GText_reader} : (num1 s rv).e = 0 ↔ rv.e = 0 ∧ (numOf s.s).isSome = true := by
 unfold num1
 split
 · rename_i h; exact ⟨fun e => ⟨e, h⟩, fun e => e.1⟩
 · rename_i h; exact ⟨fun e => absurd e (failR_e (by decide)), fun e => absurd e.2 h⟩
/-- A scope's line. -/
theorem scope_eq (rv : GText_reader) {w0 w1 : GStr} (h0 : w0.s.length ≤ 1000000) (h1 : w1.s.length ≤ 1000000) (hp : rv.g.Parent.length ≤ 1000) (hb : rv.g.Bound.length ≤ 1000) :
  f_text_reader_scope_p0_s0_0_s0_1_s0_2_s0_3 rv [w0, w1] = some ⟨⟨rv.g.Parent ++ [cl w0], rv.g.Bound ++ [cl w1], rv.g.Nodes, rv.g.Edges⟩, (roomR (rv.g.Parent.length : Int) 8 (fitsR [cl w0, cl w1] (allR [w0, w1] rv))).e⟩ := by
 refine Ok.eq ?_
 unfold f_text_reader_scope_p0_s0_0_s0_1_s0_2_s0_3
 refine Ok.bind (Ok.of_eq (small_eq23 rv (by simp) (by simp; omega)) ?_)
 refine Ok.bind (Ok.of_eq (fits_eq23 _ (by simp [numsOf])) ?_)
 refine Ok.bind (Ok.of_eq (room_eq23 _ _ _) ?_)
 simp only [roomR_g, fitsR_g, allR_g, numsOf, List.map_cons, List.map_nil]
 refine Ok.bind (Ok.idxN (i := 0) (by simp) ?_)
 refine Ok.guard (by simp only [List.length_cons, List.length_nil]; omega) ?_
 refine Ok.bind (Ok.idxN (i := 1) (by simp) ?_)
 exact Ok.guard (by simp only [List.length_cons, List.length_nil]; omega) (Ok.some rfl)
end Go.Proofs.YtocnabkanbifdaaGreatDoor
