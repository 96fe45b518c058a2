/-
  The law in plain words: what its plain function gives is true. No condition beyond those that each theorem names.
-/
import Derived.Test.YtocnabkanbifdaaGreatDoorWalkTB1
import Derived.Test.YtocnabkanbifdaaGreatDoorP23g
set_option linter.unusedSimpArgs false
set_option linter.unusedVariables false
set_option linter.unusedSectionVars false
namespace Go.Proofs.YtocnabkanbifdaaGreatDoor
open Go Go.RowKit Go.Lib
set_option maxRecDepth 100000
set_option linter.unusedVariables false
/-! What the reader of lines does with its words. -/
def failR (rv : GText_reader) (e : Int) : GText_reader := if rv.e = 0 then ⟨rv.g, e⟩ else rv
theorem failR_g (rv : GText_reader) (e : Int) : (failR rv e).g = rv.g := by unfold failR; split <;> rfl
theorem failR_e {rv : GText_reader} {e : Int} (he : e ≠ 0) : (failR rv e).e ≠ 0 := by
 unfold failR; split
 · exact he
 · assumption
theorem fail_eq (rv : GText_reader) (e : Int) : f_text_reader_fail_p0_s0_0_s0_1_s0_2_s0_3 rv e = some (failR rv e) := by
 unfold f_text_reader_fail_p0_s0_0_s0_1_s0_2_s0_3 failR
 by_cases h : rv.e = 0
 · rw [if_pos (by simp [h]), if_pos h]
 · rw [if_neg (by simp [h]), if_neg h]
open Classical in
noncomputable def numOf (s : List UInt8) : Option Int := if h : ∃ m, In m ∧ s = itoa m then some h.choose else none
theorem itoa_inj {m n : Int} (hm : In m) (hn : In n) (h : itoa m = itoa n) : m = n := by
 have h1 := parse_itoa hm
 rw [h, parse_itoa hn] at h1
 injection h1 with h1
 exact h1.symm
theorem numOf_itoa {m : Int} (h : In m) : numOf (itoa m) = some m := by
 unfold numOf
 have hx : ∃ n, In n ∧ itoa m = itoa n := ⟨m, h, rfl⟩
 rw [dif_pos hx, itoa_inj hx.choose_spec.1 h hx.choose_spec.2.symm]
theorem numOf_some {s : List UInt8} {m : Int} (h : numOf s = some m) : In m ∧ s = itoa m := by
 unfold numOf at h
 split at h
 ·
  rename_i hx
  simp only [Option.some.injEq] at h
  rw [← h]; exact hx.choose_spec
 · cases h
theorem numOf_none {s : List UInt8} (h : ∀ m, In m → s ≠ itoa m) : numOf s = none := by
 unfold numOf
 rw [dif_neg (fun ⟨m, h1, h2⟩ => h m h1 h2)]
theorem numR_eq (rv : GText_reader) {s : List UInt8} (hs : s.length ≤ 281474976710656) : f_text_reader_number_p0_s0_0_s0_1_s0_2_s0_3 rv s = some (match numOf s with | some m => (m, rv) | none => (0, failR rv 4)) := by
 unfold f_text_reader_number_p0_s0_0_s0_1_s0_2_s0_3 f_strconv_ParseInt parseF
 have hg : ∀ {α : Type} (x : Option α), guardO ((10 : Int) = 10 ∧ (64 : Int) = 64 ∧ s.length ≤ 281474976710656) x = x := fun x => by unfold guardO; rw [if_pos ⟨rfl, rfl, hs⟩]
 rw [hg]
 rcases hp : parseIntB 64 s with v | _ | _
 ·
  obtain ⟨b1, b2⟩ := parseIntB_bounds hp
  have hv : In v := ⟨by simpa using b1, by simpa using b2⟩
  simp only [bindO, Option.bind_some, if_true, fmtF_eq hv]
  by_cases he : itoa v = s
  ·
   rw [show (!(itoa v == s)) = false by simp [he], ← he, numOf_itoa hv]
   rfl
  ·
   rw [show (!(itoa v == s)) = true by simp [he], numOf_none fun m hm hsm => ?_]
   · simp [fail_eq]
   ·
    rw [hsm, parse_itoa hm] at hp
    injection hp with hp
    exact he (by rw [← hp, hsm])
 ·
  rw [numOf_none fun m hm hsm => by rw [hsm, parse_itoa hm] at hp; cases hp]
  simp [bindO, fail_eq]
 ·
  rw [numOf_none fun m hm hsm => by rw [hsm, parse_itoa hm] at hp; cases hp]
  simp [bindO, fail_eq]
def clampR (n : Int) : Int := max (-1) (min n 2147483648)
theorem clampR_eq {n : Int} (h : low n) : clampR n = n := by unfold low at h; unfold clampR; omega
noncomputable def numsOf (l : List GStr) : List Int := l.map fun s => clampR ((numOf s.s).getD 0)
open Classical in
noncomputable def allR (l : List GStr) (rv : GText_reader) : GText_reader := if ∀ s ∈ l, (numOf s.s).isSome = true then rv else failR rv 4
theorem failR_twice (rv : GText_reader) : failR (failR rv 4) 4 = failR rv 4 := by
 unfold failR
 by_cases h : rv.e = 0 <;> simp [h]
theorem small_eq23 (rv : GText_reader) {l : List GStr} (hl : l.length ≤ 100) (hs : ∀ s ∈ l, s.s.length ≤ 281474976710656) : f_text_reader_small_p0_s0_0_s0_1_s0_2_s0_3 rv l = some (numsOf l, allR l rv) := by
 refine Ok.eq ?_
 unfold f_text_reader_small_p0_s0_0_s0_1_s0_2_s0_3
 refine Ok.each (l := l) (by omega) (fun i q => q.2.1 = numsOf (l.take i) ∧ (⟨⟨q.2.2.2.1, q.2.2.2.2.1, q.2.2.1, q.2.2.2.2.2⟩, q.1⟩ : GText_reader) = allR (l.take i) rv) 0 (fun rec i hi q _ hI hr => ?_) (fun rec q hI => ?_) (by simp [numsOf, allR]) (by omega)
 ·
  obtain ⟨b, a5, a6, a7, a8, a9⟩ := q
  obtain ⟨h1, h2⟩ := hI
  simp only at h1 h2
  unfold f_text_reader_small_p0_s0_0_s0_1_s0_2_s0_3_B1
  simp only
  rw [if_pos (by simp only [decide_eq_true_eq]; omega), h2, h1]
  have hsi := hs _ (List.getElem_mem hi)
  refine Ok.bind (Ok.idxN hi (Ok.bind (Ok.of_eq (numR_eq _ hsi) ?_)))
  have hlen : (numsOf (l.take i)).length ≤ 100 := by unfold numsOf; rw [List.length_map, List.length_take]; omega
  refine Ok.guard (by simp only [List.length_cons, List.length_nil]; omega) ?_
  rw [wrap_succ (by omega)]
  cases hn : numOf l[i].s with
  | some m =>
   simp only
   refine hr _ ⟨?_, ?_⟩
   ·
    show numsOf (l.take i) ++ [clampR m] = _
    unfold numsOf
    rw [getT hi, hn]; rfl
   ·
    show (allR (l.take i) rv) = _
    unfold allR
    by_cases hall : ∀ s ∈ l.take i, (numOf s.s).isSome = true
    · rw [if_pos hall, if_pos ((allT hi).2 ⟨hall, by rw [hn]; rfl⟩)]
    · rw [if_neg hall, if_neg fun hx => hall ((allT hi).1 hx).1]
  | none =>
   simp only
   refine hr _ ⟨?_, ?_⟩
   ·
    show numsOf (l.take i) ++ [clampR 0] = _
    unfold numsOf
    rw [getT hi, hn]; rfl
   ·
    show (failR (allR (l.take i) rv) 4) = _
    have hx : ¬ ∀ s ∈ l.take (i + 1), (numOf s.s).isSome = true := fun hx => by
     have := ((allT hi).1 hx).2
     rw [hn] at this; cases this
    unfold allR
    rw [if_neg hx]
    split
    · rfl
    · exact failR_twice rv
 ·
  obtain ⟨b, a5, a6, a7, a8, a9⟩ := q
  obtain ⟨h1, h2⟩ := hI
  simp only [List.take_length] at h1 h2
  unfold f_text_reader_small_p0_s0_0_s0_1_s0_2_s0_3_B1
  simp only
  rw [if_neg (by simp)]
  exact Ok.some (by rw [h1, h2])
end Go.Proofs.YtocnabkanbifdaaGreatDoor
