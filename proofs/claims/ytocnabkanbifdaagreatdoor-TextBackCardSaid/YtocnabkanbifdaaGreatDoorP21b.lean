/-
  The law in plain words: what its plain function gives is true. No condition beyond those that each theorem names.
-/
import Derived.Test.YtocnabkanbifdaaGreatDoorWalkTB0
import Derived.Test.YtocnabkanbifdaaGreatDoorP21a
set_option linter.unusedSimpArgs false
set_option linter.unusedVariables false
set_option linter.unusedSectionVars false
namespace Go.Proofs.YtocnabkanbifdaaGreatDoor
open Go Go.RowKit Go.Lib
set_option maxRecDepth 100000
/-! Words between spaces. -/
def spB (x : Nat) : Bool := x == 32
def flds (s : List UInt8) : List GStr := (goFieldsP spB ⟨⟨s⟩⟩).map strOf
theorem width_ge (s : ByteArray) (pos : Nat) : 1 ≤ (Utf8.decode s pos).2 := by
 simp only [Utf8.decode]
 repeat' split
 all_goals simp
theorem ext_len (s : List UInt8) (a b : Nat) : ((ByteArray.extract ⟨⟨s⟩⟩ a b).data.toList) = (s.take b).drop a := by
 simp only [ByteArray.data_extract, Array.toList_extract]
 rw [List.extract_eq_take_drop, List.drop_take]
/-- What the spans are: each with something in it. -/
theorem spans_ok (s : ByteArray) : ∀ (f pos : Nat) (st : Option Nat) (acc : List (Nat × Nat)), (∀ a, st = some a → a < pos ∧ a < s.size) → (∀ x ∈ acc, x.1 < x.2 ∧ x.2 ≤ s.size) →
  (∀ x ∈ (spansFromP spB s f pos st acc).1, x.1 < x.2 ∧ x.2 ≤ s.size) ∧ (∀ a, (spansFromP spB s f pos st acc).2 = some a → a < s.size) ∧ (spansFromP spB s f pos st acc).1.length ≤ acc.length + f
 | 0, pos, st, acc, h1, h2 => ⟨h2, fun a ha => (h1 a ha).2, by simp [spansFromP]⟩
 | f + 1, pos, st, acc, h1, h2 => by
  have hw := width_ge s pos
  unfold spansFromP
  split
  ·
   rename_i hp
   split
   ·
    cases st with
    | none =>
     obtain ⟨a1, a2, a3⟩ := spans_ok s f (pos + (Utf8.decode s pos).2) none acc (fun a h => by cases h) h2
     exact ⟨a1, a2, by simp only; omega⟩
    | some a =>
     obtain ⟨b1, b2⟩ := h1 a rfl
     obtain ⟨a1, a2, a3⟩ := spans_ok s f (pos + (Utf8.decode s pos).2) none (acc ++ [(a, pos)]) (fun a h => by cases h) (fun x hx => by
      rcases List.mem_append.1 hx with hx | hx
      · exact h2 x hx
      · rw [List.mem_singleton.1 hx]; exact ⟨b1, by omega⟩)
     exact ⟨a1, a2, by simp only [List.length_append, List.length_singleton] at a3 ⊢; omega⟩
   ·
    cases st with
    | none =>
     obtain ⟨a1, a2, a3⟩ := spans_ok s f (pos + (Utf8.decode s pos).2) (some pos) acc (fun a h => by cases h; exact ⟨by omega, hp⟩) h2
     exact ⟨a1, a2, by simp only; omega⟩
    | some a =>
     obtain ⟨b1, b2⟩ := h1 a rfl
     obtain ⟨a1, a2, a3⟩ := spans_ok s f (pos + (Utf8.decode s pos).2) (some a) acc (fun a' h => by cases h; exact ⟨by omega, b2⟩) h2
     exact ⟨a1, a2, by simp only; omega⟩
  · exact ⟨h2, fun a ha => (h1 a ha).2, by simp only; omega⟩
theorem flds_ok (s : List UInt8) : (∀ x ∈ flds s, 1 ≤ x.s.length ∧ x.s.length ≤ s.length) ∧ (flds s).length ≤ s.length + 1 := by
 obtain ⟨h1, h2, h3⟩ := spans_ok ⟨⟨s⟩⟩ s.length 0 none [] (fun a h => by cases h) (fun x hx => by cases hx)
 have hz : ByteArray.size ⟨⟨s⟩⟩ = s.length := rfl
 have hall : ∀ x ∈ spansOfP spB ⟨⟨s⟩⟩, x.1 < x.2 ∧ x.2 ≤ s.length := by
  intro x hx
  unfold spansOfP closeSpans at hx
  rw [hz] at hx
  split at hx
  ·
   rename_i a ha
   rcases List.mem_append.1 hx with hx | hx
   · exact h1 x hx
   ·
    rw [List.mem_singleton.1 hx]
    have := h2 a ha
    rw [hz] at this
    exact ⟨this, Nat.le_refl _⟩
  · exact h1 x hx
 constructor
 ·
  intro x hx
  unfold flds goFieldsP at hx
  rw [List.map_map] at hx
  obtain ⟨y, hy, rfl⟩ := List.mem_map.1 hx
  obtain ⟨a1, a2⟩ := hall y hy
  simp only [Function.comp_apply, strOf]
  rw [ext_len s _ _, List.length_drop, List.length_take]
  omega
 ·
  unfold flds goFieldsP spansOfP closeSpans
  rw [hz]
  split
  ·
   simp only [List.length_map, List.length_append, List.length_singleton]
   simp only [List.length_nil, Nat.zero_add] at h3; omega
  ·
   simp only [List.length_map]
   simp only [List.length_nil, Nat.zero_add] at h3; omega
theorem dec_at (l : List UInt8) (pos : Nat) (c : UInt8) (h : l[pos]? = some c) (hc : c.toNat < 128) : Utf8.decode ⟨⟨l⟩⟩ pos = (c.toNat, 1) ∧ pos < ByteArray.size ⟨⟨l⟩⟩ := by
 obtain ⟨h1, h2⟩ := List.getElem?_eq_some_iff.1 h
 have hp : pos < ByteArray.size ⟨⟨l⟩⟩ := h1
 have he : (⟨⟨l⟩⟩ : ByteArray)[pos]'hp = c := h2
 refine ⟨?_, hp⟩
 rw [decode_ascii _ pos hp (by rw [he]; exact hc), he]
/-- Over a word. -/
theorem span_word (l : List UInt8) : ∀ (w : List UInt8) (f pos a : Nat) (acc : List (Nat × Nat)), Wd w → (∀ (j : Nat) c, w[j]? = some c → l[pos + j]? = some c) →
  spansFromP spB ⟨⟨l⟩⟩ (w.length + f) pos (some a) acc = spansFromP spB ⟨⟨l⟩⟩ f (pos + w.length) (some a) acc
 | [], f, pos, a, acc, _, _ => by simp
 | c :: w, f, pos, a, acc, hw, hl => by
  have hc := hw c (by simp)
  obtain ⟨d1, d2⟩ := dec_at l pos c (by simpa using hl 0 c rfl) hc.2
  have hn : spB c.toNat = false := by simp [spB]; omega
  rw [show (c :: w).length + f = (w.length + f) + 1 by simp only [List.length_cons]; omega]
  rw [spansFromP]
  simp only [d1, hn, if_pos d2, Bool.false_eq_true, if_false]
  rw [span_word l w f (pos + 1) a acc (fun x hx => hw x (by simp [hx])) (fun j x hj => by
   have := hl (j + 1) x (by simpa using hj)
   rwa [show pos + (j + 1) = pos + 1 + j by omega] at this)]
  simp only [List.length_cons]
  rw [show pos + 1 + w.length = pos + (w.length + 1) by omega]
theorem span_first (l : List UInt8) (w : List UInt8) (f pos : Nat) (acc : List (Nat × Nat)) (hw : Wd w) (h0 : w ≠ []) (hl : ∀ (j : Nat) c, w[j]? = some c → l[pos + j]? = some c) :
  spansFromP spB ⟨⟨l⟩⟩ (w.length + f) pos none acc = spansFromP spB ⟨⟨l⟩⟩ f (pos + w.length) (some pos) acc := by
 cases w with
 | nil => exact absurd rfl h0
 | cons c w =>
  have hc := hw c (by simp)
  obtain ⟨d1, d2⟩ := dec_at l pos c (by simpa using hl 0 c rfl) hc.2
  have hn : spB c.toNat = false := by simp [spB]; omega
  rw [show (c :: w).length + f = (w.length + f) + 1 by simp only [List.length_cons]; omega]
  rw [spansFromP]
  simp only [d1, hn, if_pos d2, Bool.false_eq_true, if_false]
  rw [span_word l w f (pos + 1) pos acc (fun x hx => hw x (by simp [hx])) (fun j x hj => by
   have := hl (j + 1) x (by simpa using hj)
   rwa [show pos + (j + 1) = pos + 1 + j by omega] at this)]
  simp only [List.length_cons]
  rw [show pos + 1 + w.length = pos + (w.length + 1) by omega]
/-- Words with a space between each two. -/
def joinW : List (List UInt8) → List UInt8
 | [] => []
 | [w] => w
 | w :: v :: r => w ++ 32 :: joinW (v :: r)
theorem spans_join : ∀ (ws : List (List UInt8)) (pre : List UInt8) (acc : List (Nat × Nat)), ws ≠ [] → (∀ w ∈ ws, Wd w ∧ w ≠ []) →
  ∀ (l : List UInt8), l = pre ++ joinW ws → (closeSpans ⟨⟨l⟩⟩ (spansFromP spB ⟨⟨l⟩⟩ (joinW ws).length pre.length none acc)).map (fun x => (l.take x.2).drop x.1) = acc.map (fun x => (l.take x.2).drop x.1) ++ ws
 | [], _, _, h, _, _, _ => absurd rfl h
 | [w], pre, acc, _, hw, l, hl => by
  obtain ⟨w1, w2⟩ := hw w (by simp)
  have hjl : ∀ (j : Nat) c, w[j]? = some c → l[pre.length + j]? = some c := fun j c hj => by
   rw [hl, List.getElem?_append_right (by omega), Nat.add_sub_cancel_left]; exact hj
  have := span_first l w 0 pre.length acc w1 w2 hjl
  simp only [Nat.add_zero] at this
  simp only [joinW] at hl ⊢
  rw [this]
  have hz : ByteArray.size ⟨⟨l⟩⟩ = l.length := rfl
  have hll : l.length = pre.length + w.length := by rw [hl, List.length_append]
  simp only [spansFromP, closeSpans, List.map_append, List.map_cons, List.map_nil, hz, List.take_length]
  rw [hl, List.drop_left]
 | w :: v :: r, pre, acc, _, hw, l, hl => by
  obtain ⟨w1, w2⟩ := hw w (by simp)
  simp only [joinW] at hl ⊢
  have hjl : ∀ (j : Nat) c, w[j]? = some c → l[pre.length + j]? = some c := fun j c hj => by
   rw [hl, List.getElem?_append_right (by omega), Nat.add_sub_cancel_left, List.getElem?_append_left (List.getElem?_eq_some_iff.1 hj).1]; exact hj
  rw [show (w ++ 32 :: joinW (v :: r)).length = w.length + ((joinW (v :: r)).length + 1) by simp only [List.length_append, List.length_cons]]
  rw [span_first l w _ pre.length acc w1 w2 hjl]
  have h32 : l[pre.length + w.length]? = some 32 := by
   rw [hl, List.getElem?_append_right (by omega), Nat.add_sub_cancel_left, List.getElem?_append_right (by omega), Nat.sub_self]; rfl
  obtain ⟨d1, d2⟩ := dec_at l _ 32 h32 (by decide)
  rw [spansFromP]
  have hn : spB (32 : UInt8).toNat = true := rfl
  simp only [d1, hn, if_pos d2, if_true]
  have hl2 : l = (pre ++ w ++ [32]) ++ joinW (v :: r) := by rw [hl]; simp
  have ih := spans_join (v :: r) (pre ++ w ++ [32]) (acc ++ [(pre.length, pre.length + w.length)]) (by simp) (fun x hx => hw x (by simp only [List.mem_cons] at hx ⊢; exact .inr hx)) l hl2
  rw [show List.length (pre ++ w ++ [(32 : UInt8)]) = pre.length + w.length + 1 by simp only [List.length_append, List.length_singleton]] at ih
  rw [ih, List.map_append, List.append_assoc]
  congr 1
  simp only [List.map_cons, List.map_nil, List.singleton_append, List.cons.injEq, and_true]
  rw [hl2, List.append_assoc, show pre.length + w.length = (pre ++ w).length by simp, List.take_left, List.drop_left]
theorem flds_join {ws : List (List UInt8)} (h0 : ws ≠ []) (hw : ∀ w ∈ ws, Wd w ∧ w ≠ []) : flds (joinW ws) = ws.map GStr.mk := by
 have h := spans_join ws [] [] h0 hw (joinW ws) rfl
 simp only [List.map_nil, List.nil_append, List.length_nil] at h
 unfold flds goFieldsP
 have e : spansOfP spB ⟨⟨joinW ws⟩⟩ = closeSpans ⟨⟨joinW ws⟩⟩ (spansFromP spB ⟨⟨joinW ws⟩⟩ (joinW ws).length 0 none []) := rfl
 rw [← e] at h
 refine Eq.trans ?_ (congrArg (List.map GStr.mk) h)
 rw [List.map_map, List.map_map]
 apply List.map_congr_left
 intro x hx
 simp only [Function.comp_apply, strOf]
 rw [ext_len]
end Go.Proofs.YtocnabkanbifdaaGreatDoor
