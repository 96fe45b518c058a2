/-
  The law in plain words: what its plain function gives is true. No condition beyond those that each theorem names.
-/
import Derived.Test.YtngeldeahafcfaaP06
import Derived.Test.YtngeldeahafcfaaWalk0
set_option linter.unusedSimpArgs false
set_option linter.unusedVariables false
namespace Go.Proofs.Ytngeldeahafcfaa
open Go Go.RowKit
/-! Reading: what is left, or an error. -/
abbrev Pa (α : Type) := List UInt8 → Except Int (α × List UInt8)
def numP (lo hi : Nat) (bad : Int) : Pa Int := fun b =>
  if (readU b 0 0).2.2 ≠ 0 then .error (readU b 0 0).2.2 else if (readU b 0 0).1 < lo ∨ hi < (readU b 0 0).1 then .error bad else .ok ((readU b 0 0).1, b.drop (readU b 0 0).2.1)
def sgnP : Pa Int := fun b => if (readU b 0 0).2.2 ≠ 0 then .error (readU b 0 0).2.2 else .ok (unzig (readU b 0 0).1, b.drop (readU b 0 0).2.1)
def bindP {α β : Type} (p : Pa α) (f : α → Pa β) : Pa β := fun b => match p b with
  | .error e => .error e
  | .ok (a, b') => f a b'
def retP {α : Type} (a : α) : Pa α := fun b => .ok (a, b)
def repP' {α : Type} (p : Pa α) : Nat → Pa (List α)
  | 0 => retP []
  | n + 1 => bindP p fun x => bindP (repP' p n) fun xs => retP (x :: xs)
def insP : Pa GIns := bindP (numP 0 2147483647 2) fun o => bindP sgnP fun n => retP ⟨o, n⟩
def nodeP : Pa GNode := bindP (numP 0 2147483647 2) fun k => bindP (numP 0 2147483647 2) fun s => bindP sgnP fun a => bindP (numP 0 64 11) fun n => bindP (repP' insP n.toNat) fun l => retP ⟨k, s, a, l⟩
def edgeP : Pa GEdge := bindP (numP 0 2147483647 2) fun f => bindP (numP 0 2147483647 2) fun t => bindP (numP 0 2147483647 2) fun p => bindP (numP 0 1 4) fun x => retP ⟨f, t, p, x == 1⟩
def scopeP : Pa (Int × Int) := bindP (numP 0 2147483647 2) fun a => bindP (numP 0 2147483647 2) fun b => retP (a, b)
def graphP : Pa GGraph := bindP (numP 1 8 11) fun n => bindP (repP' scopeP (n.toNat - 1)) fun l => bindP (numP 0 32 11) fun k => bindP (repP' nodeP k.toNat) fun ns => bindP (numP 0 64 11) fun m => bindP (repP' edgeP m.toNat) fun es =>
  retP ⟨-1 :: l.map (·.1), 0 :: l.map (·.2), ns, es⟩
def noG : GGraph := ⟨[], [], [], []⟩
def bodyG (b : List UInt8) : GGraph × Int := match graphP b with
  | .error e => (noG, e)
  | .ok (g, r) => if r = [] then (g, 0) else (noG, 4)
def readG (b : List UInt8) : GGraph × Int := if 8192 < b.length then (noG, 11) else match b with
  | [] => (noG, 3)
  | [x] => (noG, if x = 66 then 3 else 4)
  | [x, y] => (noG, if x = 66 ∧ y = 87 then 3 else 4)
  | x :: y :: z :: r => if x = 66 ∧ y = 87 ∧ z = 49 then bodyG r else (noG, 4)
/-! What a reader makes of it. -/
section
variable {S α R : Type}
def Got (St : S → List UInt8 → Prop) (Er : S → Int → Prop) (x : Except Int (α × List UInt8)) (r : α × S) : Prop := match x with
  | .ok (a, b) => r.1 = a ∧ St r.2 b
  | .error e => Er r.2 e
/-- An item, told by what comes behind. -/
def Item (St : S → List UInt8 → Prop) (Er : S → Int → Prop) (p : Pa α) (item : S → (α × S → Option R) → Option R) : Prop :=
  ∀ s b k (Q : R → Prop), St s b → (∀ r, Got St Er (p b) r → Ok (k r) Q) → Ok (item s k) Q
theorem repP'_zero {p : Pa α} {b : List UInt8} : repP' p 0 b = .ok ([], b) := rfl
theorem repP'_succ {p : Pa α} {n : Nat} {b : List UInt8} : repP' p (n + 1) b = match p b with
  | .error e => .error e
  | .ok (x, b') => match repP' p n b' with
    | .error e => .error e
    | .ok (xs, b2) => .ok (x :: xs, b2) := by
  simp only [repP', bindP, retP]
  cases p b with
  | error e => rfl
  | ok v =>
    obtain ⟨x, b'⟩ := v
    simp only
    cases repP' p n b' with
    | error e => rfl
    | ok v => rfl
theorem loop_dn (St : S → List UInt8 → Prop) (Er : S → Int → Prop) (p : Pa α) (ok : S → Bool) (sz : Nat) (item : S → (α × S → Option R) → Option R) (K : S → List α → Option R) (Q : R → Prop)
    (B : (Int × S × List α → Option R) → Int × S × List α → Option R)
    (hB : ∀ rec n s a, B rec (n, s, a) = if (decide (0 < n) && ok s) = true then item s (fun v => guardO ((List.length a + List.length [v.1]) * sz ≤ 140737488355328) (rec (IntKind.i64.wrap (n - 1), v.2, a ++ [v.1]))) else K s a)
    (hok : ∀ s b, St s b → ok s = true) (her : ∀ s e, Er s e → ok s = false) (hsz : sz ≤ 1000) (hi : Item St Er p item) : ∀ (n m : Nat) (s : S) (b : List UInt8) (a : List α), n < m → a.length + n ≤ 1000 → St s b →
      (∀ xs b' s', repP' p n b = .ok (xs, b') → St s' b' → Ok (K s' (a ++ xs)) Q) → (∀ e s' a', repP' p n b = .error e → Er s' e → Ok (K s' a') Q) → Ok (loopK B m ((n : Int), s, a)) Q
  | n, 0, s, b, a, hn, _, _, _, _ => absurd hn (Nat.not_lt_zero _)
  | 0, m + 1, s, b, a, hn, ha, hs, h1, h2 => by
    unfold loopK
    rw [hB, if_neg (by simp)]
    have := h1 [] b s rfl hs
    rwa [List.append_nil] at this
  | n + 1, m + 1, s, b, a, hn, ha, hs, h1, h2 => by
    unfold loopK
    rw [hB, if_pos (by rw [hok s b hs]; simp)]
    refine hi s b _ Q hs fun r hr => ?_
    have hw : IntKind.i64.wrap (((n + 1 : Nat) : Int) - 1) = (n : Int) := by rw [wrap_i64 _ (by omega)]; omega
    rw [hw]
    refine Ok.guard ?_ ?_
    · have := Nat.mul_le_mul (show a.length + List.length [r.1] ≤ 1000 by simp; omega) hsz
      omega
    cases hp : p b with
    | ok v =>
      obtain ⟨x, b'⟩ := v
      rw [hp] at hr
      obtain ⟨rfl, hs'⟩ := hr
      refine loop_dn St Er p ok sz item K Q B hB hok her hsz hi n m r.2 b' (a ++ [r.1]) (by omega) (by simp; omega) hs' (fun xs b2 s2 hx hs2 => ?_) (fun e s2 a2 hx he => ?_)
      · have := h1 (r.1 :: xs) b2 s2 (by rw [repP'_succ, hp]; simp only [hx]) hs2
        simpa using this
      · exact h2 e s2 a2 (by rw [repP'_succ, hp]; simp only [hx]) he
    | error e =>
      rw [hp] at hr
      have hlast : Ok (K r.2 (a ++ [r.1])) Q := h2 e _ _ (by rw [repP'_succ, hp]) hr
      have hm : ∃ m', m = m' + 1 := ⟨m - 1, by omega⟩
      obtain ⟨m', rfl⟩ := hm
      unfold loopK
      rw [hB, if_neg (by rw [her _ _ hr]; simp)]
      exact hlast
theorem loop_up (St : S → List UInt8 → Prop) (Er : S → Int → Prop) (p : Pa α) (ok : S → Bool) (sz N : Nat) (item : Int → List α → (Int × S × List α → Option R) → S → (α × S → Option R) → Option R) (K : S → List α → Option R) (Q : R → Prop)
    (B : (Int × S × List α → Option R) → Int × S × List α → Option R)
    (hB : ∀ rec i s a, B rec (i, s, a) = if (decide (i < (N : Int)) && ok s) = true then item i a rec s (fun v => guardO ((List.length a + List.length [v.1]) * sz ≤ 140737488355328) (rec (IntKind.i64.wrap (i + 1), v.2, a ++ [v.1]))) else K s a)
    (hok : ∀ s b, St s b → ok s = true) (her : ∀ s e, Er s e → ok s = false) (hsz : sz ≤ 1000)
    (hi : ∀ i a rec s b (Q : R → Prop), St s b → (∀ r, Got St Er (p b) r → Ok (guardO ((List.length a + List.length [r.1]) * sz ≤ 140737488355328) (rec (IntKind.i64.wrap (i + 1), r.2, a ++ [r.1]))) Q) →
      Ok (item i a rec s (fun v => guardO ((List.length a + List.length [v.1]) * sz ≤ 140737488355328) (rec (IntKind.i64.wrap (i + 1), v.2, a ++ [v.1])))) Q) :
    ∀ (n m i : Nat) (s : S) (b : List UInt8) (a : List α), n < m → i + n = N → N ≤ 1000 → a.length + n ≤ 1000 → St s b →
      (∀ xs b' s', repP' p n b = .ok (xs, b') → St s' b' → Ok (K s' (a ++ xs)) Q) → (∀ e s' a', repP' p n b = .error e → Er s' e → Ok (K s' a') Q) → Ok (loopK B m ((i : Int), s, a)) Q
  | n, 0, i, s, b, a, hn, _, _, _, _, _, _ => absurd hn (Nat.not_lt_zero _)
  | 0, m + 1, i, s, b, a, hn, hN, hN2, ha, hs, h1, h2 => by
    unfold loopK
    rw [hB, if_neg (by simp; omega)]
    have := h1 [] b s rfl hs
    rwa [List.append_nil] at this
  | n + 1, m + 1, i, s, b, a, hn, hN, hN2, ha, hs, h1, h2 => by
    unfold loopK
    rw [hB, if_pos (by rw [hok s b hs]; simp; omega)]
    refine hi _ _ _ s b Q hs fun r hr => ?_
    rw [wrap_succ (by omega)]
    refine Ok.guard ?_ ?_
    · have := Nat.mul_le_mul (show a.length + List.length [r.1] ≤ 1000 by simp; omega) hsz
      omega
    cases hp : p b with
    | ok v =>
      obtain ⟨x, b'⟩ := v
      rw [hp] at hr
      obtain ⟨rfl, hs'⟩ := hr
      refine loop_up St Er p ok sz N item K Q B hB hok her hsz hi n m (i + 1) r.2 b' (a ++ [r.1]) (by omega) (by omega) hN2 (by simp; omega) hs' (fun xs b2 s2 hx hs2 => ?_) (fun e s2 a2 hx he => ?_)
      · have := h1 (r.1 :: xs) b2 s2 (by rw [repP'_succ, hp]; simp only [hx]) hs2
        simpa using this
      · exact h2 e s2 a2 (by rw [repP'_succ, hp]; simp only [hx]) he
    | error e =>
      rw [hp] at hr
      have hlast : Ok (K r.2 (a ++ [r.1])) Q := h2 e _ _ (by rw [repP'_succ, hp]) hr
      have hm : ∃ m', m = m' + 1 := ⟨m - 1, by omega⟩
      obtain ⟨m', rfl⟩ := hm
      unfold loopK
      rw [hB, if_neg (by rw [her _ _ hr]; simp)]
      exact hlast
end
theorem loop_out {S α R : Type} {ok : S → Bool} {C : (Int × S × List α → Option R) → Int → S → List α → Option R} {D : Int → Bool} {K : S → List α → Option R} {Q : R → Prop} {B : (Int × S × List α → Option R) → Int × S × List α → Option R}
    (hB : ∀ rec n s a, B rec (n, s, a) = if (D n && ok s) = true then C rec n s a else K s a) {n : Int} {s : S} {a : List α} (hk : ok s = false) (h : Ok (K s a) Q) : Ok (loopK B rounds (n, s, a)) Q := by
  show Ok (B (loopK B 18446744073709551615) (n, s, a)) Q
  rw [hB, hk, if_neg (by simp)]
  exact h
theorem numP_bound {lo hi : Nat} {bad n : Int} {b r : List UInt8} (h : numP lo hi bad b = .ok (n, r)) : lo ≤ n ∧ n ≤ hi := by
  unfold numP at h
  split at h
  · cases h
  · split at h
    · cases h
    · simp only [Except.ok.injEq, Prod.mk.injEq] at h
      omega
end Go.Proofs.Ytngeldeahafcfaa

