/-
  The law in plain words: what its plain function gives is true. No condition beyond those that each theorem names.
-/
import Derived.Test.YtocnabkanbifdaaGreatDoorWalkTB0
import Derived.Test.YtocnabkanbifdaaGreatDoorP06
set_option linter.unusedSimpArgs false
set_option linter.unusedVariables false
set_option linter.unusedSectionVars false
namespace Go.Proofs.YtocnabkanbifdaaGreatDoor
open Go Go.RowKit
set_option linter.unusedSimpArgs false
set_option linter.unusedVariables false
/-! Are two the same? -/
theorem cmp_loop {α R : Type} {a b : List α} (hl : a.length = b.length) (hlen : a.length < 9223372036854775808) {Q : R → Prop} {F : R} {K : Option R} {T : α → α → Option R → Option R} {B : (Int → Option R) → Int → Option R}
  (hB : ∀ rec i, B rec i = if (decide (i < (List.length a : Int))) = true then bindO (idx a i) (fun x => bindO (idx b i) (fun y => T x y (rec (IntKind.i64.wrap (i + 1))))) else K)
  (hT : ∀ x ∈ a, ∀ y ∈ b, ∀ k, (x = y → Ok k Q) → (x ≠ y → Q F) → Ok (T x y k) Q) (h1 : a = b → Ok K Q) (h2 : a ≠ b → Q F) : Ok (loopK B rounds 0) Q := by
 refine Ok.loop0 (fun t : Int => ∃ i : Nat, t = i ∧ i ≤ a.length ∧ a.take i = b.take i) (fun t : Int => a.length - t.toNat) ?_ ⟨0, rfl, by omega, by simp⟩ (by simp [rounds]; omega)
 rintro rec t ⟨i, rfl, hi, hp⟩ hr
 rw [hB]
 refine Ok.iteB (fun hc => ?_) (fun hc => ?_)
 ·
  simp only [decide_eq_true_eq] at hc
  have hia : i < a.length := by omega
  have hib : i < b.length := by omega
  refine Ok.bind (Ok.idxN hia (Ok.bind (Ok.idxN hib (hT _ (List.getElem_mem hia) _ (List.getElem_mem hib) _ (fun he => ?_) (fun hne => h2 fun e => hne (by subst e; rfl))))))
  rw [wrap_succ (by omega)]
  exact hr _ ⟨i + 1, rfl, by omega, by rw [List.take_succ_eq_append_getElem hia, List.take_succ_eq_append_getElem hib, hp, he]⟩ (by simp only [Int.toNat_natCast]; omega)
 ·
  simp only [decide_eq_false_iff_not] at hc
  have : i = a.length := by omega
  subst this
  rw [List.take_length, hl, List.take_length] at hp
  exact h1 hp
theorem ints_ok (a b : List Int) (ha : a.length < 9223372036854775808) : Ok (f_backwashref08_ints a b) (fun r => r = true ↔ a = b) := by
 unfold f_backwashref08_ints
 refine Ok.iteB (fun hc => Ok.some ?_) (fun hc => ?_)
 ·
  simp at hc
  exact iff_of_false (by simp) fun h : a = b => by have := congrArg List.length h; omega
 ·
  simp at hc
  refine cmp_loop (T := fun x y k => if (!(x == y)) = true then some false else k) (F := false) (K := some true) (by omega) ha (fun rec i => rfl) (fun x _ y _ k h1 h2 => ?_) (fun h => Ok.some (by simp [h])) (fun h => by simp [h])
  refine Ok.iteB (fun hc => Ok.some (h2 (by simpa using hc))) (fun hc => h1 (by simpa using hc))
theorem same07_ok (a b : List GIns) (ha : a.length < 9223372036854775808) : Ok (f_backwashref07_Same a b) (fun r => r = true ↔ a = b) := by
 unfold f_backwashref07_Same
 refine Ok.iteB (fun hc => Ok.some ?_) (fun hc => ?_)
 ·
  simp at hc
  exact iff_of_false (by simp) fun h : a = b => by have := congrArg List.length h; omega
 ·
  simp at hc
  refine cmp_loop (T := fun x y k => if (!((x.Op == y.Op) && (x.N == y.N))) = true then some false else k) (F := false) (K := some true) (by omega) ha (fun rec i => rfl) (fun x _ y _ k h1 h2 => ?_) (fun h => Ok.some (by simp [h])) (fun h => by simp [h])
  obtain ⟨xo, xn⟩ := x
  obtain ⟨yo, yn⟩ := y
  refine Ok.iteB (fun hc => Ok.some (h2 ?_)) (fun hc => h1 ?_)
  · intro e; cases e; simp at hc
  · simp at hc; rw [hc.1, hc.2]
def lenG (g : GGraph) : Prop := g.Parent.length < 9223372036854775808 ∧ g.Bound.length < 9223372036854775808 ∧ g.Nodes.length < 9223372036854775808 ∧ g.Edges.length < 9223372036854775808 ∧ ∀ x ∈ g.Nodes, x.Prog.length < 9223372036854775808
theorem Same08_ok (a b : GGraph) (ha : lenG a) : Ok (f_backwashref08_Same a b) (fun r => r = true ↔ a = b) := by
 obtain ⟨a1, a2, a3, a4⟩ := a
 obtain ⟨b1, b2, b3, b4⟩ := b
 obtain ⟨l1, l2, l3, l4, l5⟩ := ha
 simp only at l1 l2 l3 l4 l5
 unfold f_backwashref08_Same
 simp only [GGraph.mk.injEq]
 refine Ok.bind2 (ints_ok a1 b1 l1) fun v1 h1 => Ok.iteB (fun hc => ?_) (fun hc => Ok.some ?_)
 ·
  have e1 := h1.1 hc
  refine Ok.bind2 (ints_ok a2 b2 l2) fun v2 h2 => Ok.iteB (fun hc => Ok.some ?_) (fun hc => ?_)
  ·
   constructor
   · intro h; cases h
   ·
    rintro ⟨rfl, rfl, rfl, rfl⟩
    have := h2.2 rfl
    simp [this] at hc
  ·
   simp at hc
   obtain ⟨⟨hv2, hn⟩, he⟩ := hc
   have e2 := h2.1 hv2
   subst e1 e2
   refine cmp_loop (T := fun x y k => if (((!(x.Kind == y.Kind)) || (!(x.Scope == y.Scope))) || (!(x.Arg == y.Arg))) = true then some false else bindO (f_backwashref07_Same x.Prog y.Prog) fun v => if (!v) = true then some false else k) (F := false)
    (show a3.length = b3.length by omega) l3 (fun rec i => rfl) (fun x hx y hy k g1 g2 => ?_) (fun h => ?_) (fun h => by simp [h])
   ·
    obtain ⟨x1, x2, x3, x4⟩ := x
    obtain ⟨y1, y2, y3, y4⟩ := y
    refine Ok.iteB (fun hc => Ok.some (g2 ?_)) (fun hc => ?_)
    · intro e; cases e; simp at hc
    ·
     simp at hc
     obtain ⟨⟨rfl, rfl⟩, rfl⟩ := hc
     refine Ok.bind2 (same07_ok x4 y4 (l5 _ hx)) fun v hv => Ok.iteB (fun hc => Ok.some (g2 ?_)) (fun hc => g1 ?_)
     ·
      intro e; cases e
      have := hv.2 rfl
      simp [this] at hc
     ·
      have := hv.1 (by simpa using hc)
      rw [this]
   ·
    subst h
    unfold f_backwashref08_Same_J1
    refine cmp_loop (T := fun x y k => if (!((x.From == y.From) && ((x.To == y.To) && ((x.Port == y.Port) && (x.Exchange == y.Exchange))))) = true then some false else k) (F := false) (K := some true) (show a4.length = b4.length by omega) l4 (fun rec i => rfl)
     (fun x _ y _ k h1 h2 => ?_) (fun h => Ok.some (by simp [h])) (fun h => by simp [h])
    obtain ⟨x1, x2, x3, x4⟩ := x
    obtain ⟨y1, y2, y3, y4⟩ := y
    refine Ok.iteB (fun hc => Ok.some (h2 ?_)) (fun hc => h1 ?_)
    · intro e; cases e; simp at hc
    · simp at hc; obtain ⟨rfl, rfl, rfl, rfl⟩ := hc; rfl
 ·
  constructor
  · intro h; cases h
  ·
   rintro ⟨rfl, _⟩
   have := h1.2 rfl
   rw [this] at hc; cases hc
end Go.Proofs.YtocnabkanbifdaaGreatDoor
