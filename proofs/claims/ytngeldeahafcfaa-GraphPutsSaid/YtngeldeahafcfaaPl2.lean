/-
  The law in plain words: what its plain function gives is true. No condition beyond those that each theorem names.
-/
import Derived.Test.YtngeldeahafcfaaP6n
set_option linter.unusedSimpArgs false
set_option linter.unusedVariables false
namespace Go.Proofs.Ytngeldeahafcfaa
open Go Go.RowKit
/-! Loops along a row. -/
theorem Ok.each {α σ R : Type} {l : List α} (hl : l.length < 9223372036854775807) {body : (Int × σ → Option R) → Int × σ → Option R} (I : Nat → σ → Prop) {Q : R → Prop} {s0 : σ} (i0 : Nat)
    (h : ∀ (rec : Int × σ → Option R) (i : Nat) (_ : i < l.length) s, i0 ≤ i → I i s → (∀ s', I (i + 1) s' → Ok (rec (((i + 1 : Nat) : Int), s')) Q) → Ok (body rec ((i : Int), s)) Q)
    (hK : ∀ (rec : Int × σ → Option R) s, I l.length s → Ok (body rec ((l.length : Int), s)) Q) (h0 : I i0 s0) (hi0 : i0 ≤ l.length) : Ok (loopK body rounds ((i0 : Int), s0)) Q := by
  refine Ok.loop0 (fun s => ∃ i : Nat, s.1 = (i : Int) ∧ i0 ≤ i ∧ i ≤ l.length ∧ I i s.2) (fun s => l.length - s.1.toNat) ?_ ⟨i0, rfl, Nat.le_refl _, hi0, h0⟩ (by simp only [rounds]; omega)
  rintro rec ⟨_, s⟩ ⟨i, rfl, h1, h2, h3⟩ hr
  rcases Nat.lt_or_ge i l.length with hlt | hge
  · exact h rec i hlt s h1 h3 fun s' hs' => hr _ ⟨i + 1, rfl, by omega, by omega, hs'⟩ (by simp only [Int.toNat_natCast]; omega)
  · obtain rfl : i = l.length := by omega
    exact hK rec s h3
theorem Ok.each1 {α R : Type} {l : List α} (hl : l.length < 9223372036854775807) {body : (Int → Option R) → Int → Option R} (I : Nat → Prop) {Q : R → Prop} (i0 : Nat)
    (h : ∀ (rec : Int → Option R) (i : Nat) (_ : i < l.length), i0 ≤ i → I i → (I (i + 1) → Ok (rec ((i + 1 : Nat) : Int)) Q) → Ok (body rec (i : Int)) Q)
    (hK : ∀ (rec : Int → Option R), I l.length → Ok (body rec (l.length : Int)) Q) (h0 : I i0) (hi0 : i0 ≤ l.length) : Ok (loopK body rounds (i0 : Int)) Q := by
  refine Ok.loop0 (fun s : Int => ∃ i : Nat, s = (i : Int) ∧ i0 ≤ i ∧ i ≤ l.length ∧ I i) (fun s => l.length - s.toNat) ?_ ⟨i0, rfl, Nat.le_refl _, hi0, h0⟩ (by simp only [rounds]; omega)
  rintro rec _ ⟨i, rfl, h1, h2, h3⟩ hr
  rcases Nat.lt_or_ge i l.length with hlt | hge
  · exact h rec i hlt h1 h3 fun hs' => hr _ ⟨i + 1, rfl, by omega, by omega, hs'⟩ (by simp only [Int.toNat_natCast]; omega)
  · obtain rfl : i = l.length := by omega
    exact hK rec h3
theorem flatMap_len {α : Type} {f : α → List UInt8} {M : Nat} : ∀ {l : List α}, (∀ x ∈ l, (f x).length ≤ M) → (l.flatMap f).length ≤ l.length * M
  | [], _ => by simp
  | x :: l, h => by
    rw [List.flatMap_cons, List.length_append, List.length_cons, Nat.add_mul]
    have := h x (by simp)
    have := flatMap_len (l := l) fun y hy => h y (by simp [hy])
    omega
theorem flatMap_take {α β : Type} {f : α → List β} {l : List α} {i : Nat} (h : i < l.length) : (l.take (i + 1)).flatMap f = (l.take i).flatMap f ++ f l[i] := by
  rw [List.take_succ_eq_append_getElem h, List.flatMap_append]; simp
theorem flatMap_take_len {α : Type} {f : α → List UInt8} {M : Nat} {l : List α} (i : Nat) (hi : i ≤ l.length) (h : ∀ x ∈ l, (f x).length ≤ M) : ((l.take i).flatMap f).length ≤ i * M := by
  have := flatMap_len (l := l.take i) fun x hx => h x (List.mem_of_mem_take hx)
  rw [List.length_take, Nat.min_eq_left hi] at this
  exact this
theorem all_take_succ {α : Type} {P : α → Prop} {l : List α} {i : Nat} (h : i < l.length) : (∀ x ∈ l.take (i + 1), P x) ↔ (∀ x ∈ l.take i, P x) ∧ P l[i] := by
  rw [List.take_succ_eq_append_getElem h]
  constructor
  · intro h1; exact ⟨fun x hx => h1 x (List.mem_append_left _ hx), h1 _ (List.mem_append_right _ (List.mem_singleton.2 rfl))⟩
  · rintro ⟨h1, h2⟩ x hx
    rcases List.mem_append.1 hx with hx | hx
    · exact h1 x hx
    · simp only [List.mem_singleton] at hx; rw [hx]; exact h2
end Go.Proofs.Ytngeldeahafcfaa

