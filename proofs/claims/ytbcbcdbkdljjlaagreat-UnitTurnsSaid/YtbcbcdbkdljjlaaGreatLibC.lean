/-
  Rows of typed things, calls of functions with contracts, regions whose order is open, what arguments are. No condition beyond those that each theorem names.
-/
import Derived.Test.YtbcbcdbkdljjlaaGreatLibB
import Derived.DeepKeys
import Derived.Below
import Derived.Deep.Slices
import Derived.Deep.Fields
import Derived.OpenShut
import Derived.WideShapes
set_option linter.unusedSimpArgs false
set_option linter.unusedVariables false
set_option linter.unusedSectionVars false
namespace Go.Proofs.YtbcbcdbkdljjlaaGreat
open Go Go.RowKit
def zk9 (P : Program) (x : Code) (Q : Exit → St → Prop) (s : St) : Prop := vc P x Q s
class Row (α : Type) where
  sz : Nat
  row : α → List AV
def enc {α : Type} [Row α] (l : List α) : List (List AV) := l.map Row.row
theorem q1f {α : Type} [Row α] (l : List α) : (enc l).length = l.length := by simp [enc]
theorem q5r {α : Type} [Row α] : enc ([] : List α) = [] := rfl
theorem q6a {α : Type} [Row α] (a b : List α) : enc (a ++ b) = enc a ++ enc b := by simp [enc]
theorem z0l {α : Type} [Row α] (l : List α) (n : Nat) : (enc l).take n = enc (l.take n) := by simp [enc]
theorem z5e {α : Type} [Row α] (l : List α) (n : Nat) : (enc l).drop n = enc (l.drop n) := by simp [enc]
theorem q3s {α : Type} [Row α] (l : List α) (n : Nat) (x : α) : (enc l).set n (Row.row x) = enc (l.set n x) := by simp [enc]
def idx {α : Type} (l : List α) (i : Int) : Option α := if 0 ≤ i then l[i.toNat]? else none
theorem u7 {α : Type} [Row α] {l : List α} {i : Int} {x : α} (h : idx l i = some x) : 0 ≤ i ∧ i < l.length ∧ q29 (enc l) i.toNat = Row.row x := by
  unfold idx at h
  split at h
  · rename_i h0
    obtain ⟨hlt, he⟩ := List.getElem?_eq_some_iff.1 h; refine ⟨h0, by omega, ?_⟩; simp [q29, enc, hlt, he]
  · cases h
instance : Row Int := ⟨1, fun n => [.v (.int .i64 n)]⟩
instance : Row Bool := ⟨1, fun b => [.v (.bool b)]⟩
instance : Row UInt8 := ⟨1, fun x => [.v (.int .u8 x.toNat)]⟩
instance {α : Type} [Row α] : Row (List α) := ⟨1, fun l => [.sl (Row.sz α) (enc l)]⟩
theorem qe3 (n : Int) : Row.row n = [.v (.int .i64 n)] := rfl
theorem q9v (b : Bool) : Row.row b = [.v (.bool b)] := rfl
theorem qv7 (x : UInt8) : Row.row x = [.v (.int .u8 x.toNat)] := rfl
theorem q8d {α : Type} [Row α] (l : List α) : Row.row l = [.sl (Row.sz α) (enc l)] := rfl
theorem z8v : Row.sz Int = 1 := rfl
theorem z6p : Row.sz Bool = 1 := rfl
theorem zc6 : Row.sz UInt8 = 1 := rfl
theorem z6o {α : Type} [Row α] : Row.sz (List α) = 1 := rfl
def toB (n : Int) : UInt8 := n.toNat.toUInt8
theorem ze9 (n : Int) (h : 0 ≤ n ∧ n < 256) : ((toB n).toNat : Int) = n := by
  unfold toB; rw [Nat.toUInt8_eq, UInt8.toNat_ofNat']; omega
def q0v {α : Type} (c : Prop) [Decidable c] (k : Option α) : Option α := if c then k else none
def j6 {α β : Type} (x : Option α) (k : α → Option β) : Option β := x.bind k
theorem q0k {α : Type} {c : Prop} [Decidable c] {k : Option α} {r : α} (h : q0v c k = some r) : c ∧ k = some r := by
  unfold q0v at h; split at h
  · exact ⟨by assumption, h⟩
  · cases h
theorem q9 {α β : Type} {x : Option α} {k : α → Option β} {r : β} (h : j6 x k = some r) : ∃ a, x = some a ∧ k a = some r := Option.bind_eq_some_iff.1 h
theorem x9 {α : Type} {b : Bool} {x y : Option α} {r : α} (h : (if b = true then x else y) = some r) (hb : b = true) : x = some r := by rw [if_pos hb] at h; exact h
theorem u6 {α : Type} {b : Bool} {x y : Option α} {r : α} (h : (if b = true then x else y) = some r) (hb : b = false) : y = some r := by rw [if_neg (by simp [hb])] at h; exact h
def rounds : Nat := 18446744073709551616
def p9 {σ R : Type} (body : (σ → Option R) → σ → Option R) : Nat → σ → Option R
  | 0, _ => none
  | n + 1, s => body (p9 body n) s
theorem q08 {σ R : Type} {body : (σ → Option R) → σ → Option R} {n : Nat} {s : σ} {r : R} (h : p9 body n s = some r) : ∃ m, n = m + 1 ∧ body (p9 body m) s = some r := by
  cases n with
  | zero => cases h
  | succ m => exact ⟨m, rfl, h⟩

theorem q0f {P : Program} {s : St} {f : FuncId} {args args' : List AV} {K : St → AV → Prop} {r : AV} (h : PureS P f args' 0 r) (ha : args = args') (hf : q0n args' = true) (hk : K s r) : qk4 P s f args K := by
  subst ha; exact z1m (hp1 := []) (hp2 := s.hp) (by simp) (h.up hf s.nx) (fun r' hp' nx' hq => by
    obtain ⟨rfl, rfl, rfl⟩ := hq; exact hk)
end Go.Proofs.YtbcbcdbkdljjlaaGreat

namespace Go.Proofs.YtbcbcdbkdljjlaaGreat
open Go Go.RowKit
def q2h (ops : Array Oper) : Nat → Nat → Nat → Bool
  | 0, _, _ => false
  | n + 1, i, j => match ops[i]? with
    | some oi => oi.after.any fun e => Region.binds .any e && (e.on == j || q2h ops n e.on j)
    | none => false
def qh0 (ops : Array Oper) (k : Nat) : Bool := (List.range ops.size).all fun i => decide (i < k) || (List.range i).all fun j => q2h ops ops.size i j
theorem qp7 {ops : Array Oper} {k : Nat} (h : qh0 ops k = true) : ∀ i, i < ops.size → k ≤ i → ∀ j, j < i → q2h ops ops.size i j = true := by
  intro i hi hk j hj; simp only [qh0, List.all_eq_true, List.mem_range, Bool.or_eq_true, decide_eq_true_eq] at h; rcases h i hi with h1 | h1
  · omega
  · exact h1 j hj
theorem q6m {ops : Array Oper} {listed : Nat → Prop} (hcl : ∀ i oi, ops[i]? = some oi → listed i → ∀ e ∈ oi.after, Region.binds .any e = true → listed e.on) :
    ∀ (n i j : Nat) (oi : Oper), ops[i]? = some oi → (∀ e ∈ oi.after, Region.binds .any e = true → listed e.on) → q2h ops n i j = true → listed j
  | 0, _, _, _, _, _, h => by simp [q2h] at h
  | n + 1, i, j, oi, hoi, hd, h => by
    unfold q2h at h; rw [hoi] at h; obtain ⟨e, he, hb⟩ := Array.any_eq_true'.1 h; simp only [Bool.and_eq_true, Bool.or_eq_true, beq_iff_eq] at hb; rcases hb.2 with h1 | h1
    · rw [← h1]; exact hd e he hb.1
    · cases ho : ops[e.on]? with
      | none => cases n <;> simp [q2h, ho] at h1
      | some oe => exact q6m hcl n e.on j oe ho (hcl e.on oe ho (hd e he hb.1)) h1
section
variable {P : Program} {C : Ctx} {hp : Hp} {nx nb nt : Nat} {β : Ghost}

theorem z4b {ops : Array Oper} {k : Nat} (hok : qs1 ops = true) (ht : qh0 ops k = true) {Q : Exit → Act → World → Prop} {K : St → Prop} (hQ : ∀ a w, RK C K a w → Q .normal a w) :
    ∀ (fuel m : Nat) (listed : Array Bool) (s : St) (a : Act) (w : World) (β : Ghost), k ≤ m → m ≤ ops.size → listed.size = ops.size → (∀ i, i < ops.size → (listed.getD i false = true ↔ i < m)) → ops.size - m ≤ fuel →
      qg1 s.nt ops.toList = true → Rel C s a w β → q86 P ops (ops.toList.drop m) s K → wpAny P .any ops Q fuel listed a w := by
  obtain ⟨hlow, _⟩ := qg8 hok; have htl := qp7 ht; intro fuel
  induction fuel with
  | zero =>
    intro m listed s a w β hk hm hsz hL hf hokn hR hv; have hme : m = ops.size := by omega
    subst hme; refine ⟨?_, ?_⟩
    · cases hr : Region.ready .any ops listed with
      | nil => rfl
      | cons i l =>
        have : i ∈ Region.ready .any ops listed := by rw [hr]; exact List.mem_cons_self
        obtain ⟨h1, o, ho, _⟩ := mem_ready.1 this; have hi := (Array.getElem?_eq_some_iff.1 ho).1; have hl := (hL i hi).2 hi; have hil : i < listed.size := by omega
        simp only [Array.getD_eq_getD_getElem?, Array.getElem?_eq_getElem hil, Option.getD_some] at hl h1; rw [hl] at h1; cases h1
    · rw [List.drop_of_length_le (by simp)] at hv
      exact hQ a w ⟨s, β, hR, hv⟩
  | succ fuel ih =>
    intro m listed s a w β hk hm hsz hL hf hokn hR hv; rcases Nat.lt_or_ge m ops.size with hlt | hge
    · have hom : ops[m]? = some ops[m] := Array.getElem?_eq_getElem hlt
      have hready : m ∈ Region.ready .any ops listed := mem_ready.2 ⟨by
        have hml : m < listed.size := by omega
        have := hL m hlt; simp only [Array.getD_eq_getD_getElem?, Array.getElem?_eq_getElem hml, Option.getD_some] at this ⊢
        cases hx : listed[m] with
        | false => rfl
        | true => rw [hx] at this; have := this.1 rfl; omega, ops[m], hom, fun e he hb => (hL e.on (Nat.lt_trans (hlow m _ hom e he hb) hlt)).2 (hlow m _ hom e he hb)⟩
      refine ⟨fun h0 => (by rw [h0] at hready; cases hready), fun i hi => ?_⟩; have him : i = m := by
        obtain ⟨h1, o, ho, he⟩ := mem_ready.1 hi; have his := (Array.getElem?_eq_some_iff.1 ho).1; have hil : i < listed.size := by omega
        have hLi : ¬ listed.getD i false = true := by
          simp only [Array.getD_eq_getD_getElem?, Array.getElem?_eq_getElem hil, Option.getD_some] at h1 ⊢; simp [h1]
        have hge : m ≤ i := Nat.le_of_not_lt fun hlt' => hLi ((hL i his).2 hlt'); rcases Nat.lt_or_ge m i with hgt | hle
        · have hcl : ∀ i oi, ops[i]? = some oi → (i < ops.size ∧ i < m) → ∀ e ∈ oi.after, Region.binds .any e = true → (e.on < ops.size ∧ e.on < m) := fun i oi hoi hi e he hb => by
            have := hlow i oi hoi e he hb; omega
          have := q6m (listed := fun i => i < ops.size ∧ i < m) hcl ops.size i m o ho (fun e he1 he2 => by
            have h1 := hlow i o ho e he1 he2; have h2 := he e he1 he2; exact ⟨by omega, (hL e.on (by omega)).1 h2⟩) (htl i his (by omega) m hgt)
          omega
        · omega
      subst him; have hdrop : ops.toList.drop i = ops[i] :: ops.toList.drop (i + 1) := by
        rw [List.drop_eq_getElem_cons (by simpa using hlt)]; simp
      rw [hdrop] at hv; have hd : dok s.nt ops[i].dst = true := List.all_eq_true.1 hokn _ (Array.mem_toList_iff.2 (Array.getElem_mem hlt)); have h1 := z2h (Q := Q) hR hd hv; have hnext : ∀ a' w', a'.tmps.size = a.tmps.size → RK C (fun s' => q86 P ops (ops.toList.drop (i + 1)) s' K) a' w' → wpAny P .any ops Q fuel (listed.setIfInBounds i true) a' w' := by
        rintro a' w' hsz' ⟨s', β', hR', hk'⟩; have hnt : s'.nt = s.nt := by rw [← hR'.nt, hsz', hR.nt]
        refine ih (i + 1) _ s' a' w' β' (by omega) (by omega) (by simpa using hsz) (fun j hj => ?_) (by omega) (by rw [hnt]; exact hokn) hR' hk'; have hil : i < listed.size := by omega
        by_cases hji : i = j
        · subst hji
          simp [hil]
        · have := hL j hj
          simp only [Array.getD_eq_getD_getElem?, Array.getElem?_setIfInBounds, if_neg hji] at this ⊢; rw [this]; omega
      unfold wpOp; rw [hom]; simp only; have hsize : ∀ v, (a.put ops[i].dst v).tmps.size = a.tmps.size := fun v => by
        cases hdd : ops[i].dst <;> simp [Act.put]
      split
      · rename_i hw
        rw [if_pos hw] at h1
        left
        unfold Oper.wp at h1 ⊢
        generalize (execOp a.eval ops[i]).run P w = res at h1 ⊢
        cases res with
        | ok n w' =>
          cases n <;> simp only [Oper.upon] at h1 ⊢
          · exact hnext _ _ (hsize _) h1
          · exact hnext _ _ (hsize _) h1
          · exact h1.mono fun e w'' he => by
              cases e <;> first | exact hnext _ _ (hsize _) he | exact he
          · refine hnext _ _ ?_ h1
            cases hdd : ops[i].dst <;> simp [Act.put]
          · exact h1.mono fun _ _ he => hnext _ _ (hsize _) he
        | halt x w' => cases x <;> simp only [Oper.upon] at h1 ⊢ <;> exact h1
      · rename_i hw
        rw [if_neg hw] at h1; exact hnext _ _ (hsize _) h1
    · have hme : m = ops.size := by omega
      subst hme; have hre : Region.ready .any ops listed = [] := by
        cases hr : Region.ready .any ops listed with
        | nil => rfl
        | cons i l =>
          have : i ∈ Region.ready .any ops listed := by rw [hr]; exact List.mem_cons_self
          obtain ⟨h1, o, ho, _⟩ := mem_ready.1 this; have hi := (Array.getElem?_eq_some_iff.1 ho).1; have hl := (hL i hi).2 hi; have hil : i < listed.size := by omega
          simp only [Array.getD_eq_getD_getElem?, Array.getElem?_eq_getElem hil, Option.getD_some] at hl h1; rw [hl] at h1; cases h1
      rw [List.drop_of_length_le (by simp)] at hv; refine ⟨fun _ => hQ a w ⟨s, β, hR, hv⟩, fun i hi => (by rw [hre] at hi; cases hi)⟩
end
end Go.Proofs.YtbcbcdbkdljjlaaGreat

namespace Go.Proofs.YtbcbcdbkdljjlaaGreat
open Go Go.RowKit
def EffAt (P : Program) (C : Ctx) (nb nx nx' nt : Nat) (hp hp' : Hp) (E : Nat → AV) (o : Oper) (r : AV) : Prop :=
  ∀ (a : Act) (w : World) (β : Ghost), Rel C ⟨nb, [], hp, nx, nt⟩ a w β → (∀ t, rep w β nx (own β hp C.A) (E t) (a.tmps.getD t undef)) →
    ∀ (K : Act → World → Prop) (Q : Exit → Act → World → Prop), (∀ a' w' β', Rel C ⟨nb, [], hp', nx', nt⟩ a' w' β' → (∀ t, rep w' β' nx' (own β' hp' C.A) (q2v E o.dst r t) (a'.tmps.getD t undef)) → K a' w') → o.wp P a w K Q

def z8m (P : Program) (C : Ctx) (ops : Array Oper) (nb nx nx' nt : Nat) (hp hp' : Hp) (E : Nat → AV) (o : Oper) (r : AV) : Prop :=
  ∀ (a : Act) (w : World) (β : Ghost), Rel C ⟨nb, [], hp, nx, nt⟩ a w β → (∀ t, rep w β nx (own β hp C.A) (E t) (a.tmps.getD t undef)) →
    ∀ (K : Act → World → Prop) (Q : Exit → Act → World → Prop), (∀ a' w' β', Rel C ⟨nb, [], hp', nx', nt⟩ a' w' β' → (∀ t, rep w' β' nx' (own β' hp' C.A) (q2v E o.dst r t) (a'.tmps.getD t undef)) → K a' w') →
      if Region.wanted o (yielded ops a.tmps) then o.wp P a w K Q else K (a.put o.dst undef) w
theorem EffAt.g {P : Program} {C : Ctx} {ops : Array Oper} {nb nx nx' nt : Nat} {hp hp' : Hp} {E : Nat → AV} {o : Oper} {r : AV} (hg : o.guard = none) (h : EffAt P C nb nx nx' nt hp hp' E o r) : z8m P C ops nb nx nx' nt hp hp' E o r :=
  fun a w β hR hE K Q hK => by rw [if_pos (by simp [Region.wanted, hg])]; exact h a w β hR hE K Q hK
def q6b (ops : Array Oper) (k : Nat) (listed : Array Bool) : Prop := ∀ i oi, ops[i]? = some oi → listed.getD i false = true → i < k ∧ ∀ e ∈ oi.after, Region.binds .any e = true → listed.getD e.on false = true
def q8g (oj : Oper) (j : Nat) (listed : Array Bool) : Prop := listed.getD j false = false ∧ ∀ e ∈ oj.after, Region.binds .any e = true → listed.getD e.on false = true

section
variable {P : Program} {C : Ctx} {nb nt : Nat}
theorem qv3 {ops : Array Oper} {k : Nat} {r E0 : Nat → AV} {Ej : Nat → Nat → AV} (hok : qs1 ops = true) (ht : qh0 ops k = true) (hks : k ≤ ops.size) (hdst : qg1 nt ops.toList = true) (hEj : ∀ j, j < k → EnvIs ops r E0 (· < j) (Ej j))
    (F : List Nat) (isE : Nat → Bool) (H : Array Bool → Hp) (N : Array Bool → Nat)
    (hq : ∀ listed j oj, listed.size = ops.size → j < k → ops[j]? = some oj → q6b ops k listed → (∀ f ∈ F, listed.getD f false = true) → q8g oj j listed → isE j = false → QG P (H listed) (N listed) ops (Ej j) oj (r j) ∧ H (listed.setIfInBounds j true) = H listed ∧ N (listed.setIfInBounds j true) = N listed)
    (he : ∀ listed j oj, listed.size = ops.size → j < k → ops[j]? = some oj → q6b ops k listed → (∀ f ∈ F, listed.getD f false = true) → q8g oj j listed → isE j = true → ∀ E, EnvIs ops r E0 (fun i => listed.getD i false = true) E → (∀ t ∈ oj.looksAt ops, E t = Ej j t) →
      z8m P C ops nb (N listed) (N (listed.setIfInBounds j true)) nt (H listed) (H (listed.setIfInBounds j true)) E oj (r j))
    {Q : Exit → Act → World → Prop} {Ef : Nat → AV} (hEf : EnvIs ops r E0 (· < k) Ef)
    (hQ : ∀ fuel listed a w β, listed.size = ops.size → (∀ i, i < ops.size → (listed.getD i false = true ↔ i < k)) → ops.size - k ≤ fuel → Rel C ⟨nb, [], H listed, N listed, nt⟩ a w β → (∀ t, rep w β (N listed) (own β (H listed) C.A) (Ef t) (a.tmps.getD t undef)) → wpAny P .any ops Q fuel listed a w) :
    ∀ (fuel : Nat) (listed : Array Bool) (a : Act) (w : World) (β : Ghost) (E : Nat → AV), listed.size = ops.size → ((List.range ops.size).filter fun i => !listed.getD i true).length ≤ fuel →
      q6b ops k listed → Rel C ⟨nb, [], H listed, N listed, nt⟩ a w β → (∀ t, rep w β (N listed) (own β (H listed) C.A) (E t) (a.tmps.getD t undef)) → EnvIs ops r E0 (fun i => listed.getD i false = true) E → (∀ f ∈ F, listed.getD f false = true) → wpAny P .any ops Q fuel listed a w := by
  obtain ⟨hlow, hap⟩ := qg8 hok; have htl := qp7 ht; have hcount : ∀ (listed : Array Bool), listed.size = ops.size → (∀ i, i < ops.size → (listed.getD i false = true ↔ i < k)) → ops.size - k ≤ ((List.range ops.size).filter fun i => !listed.getD i true).length := by
    intro listed hsz hL; have h1 : ((List.range ops.size).filter fun i => !listed.getD i true) = (List.range ops.size).filter fun i => !decide (i < k) := List.filter_congr fun i hi => by
      have his : i < ops.size := List.mem_range.1 hi; have hil : i < listed.size := by omega
      have := hL i his; simp only [Array.getD_eq_getD_getElem?, Array.getElem?_eq_getElem hil, Option.getD_some] at this ⊢
      by_cases hik : i < k
      · simp [hik, this.2 hik]
      · cases hx : listed[i] with
        | false => simp [hik]
        | true => exact absurd (this.1 hx) hik
    rw [h1]; have h2 : ∀ n, n - k ≤ ((List.range n).filter fun i => !decide (i < k)).length := by
      intro n
      induction n with
      | zero => simp
      | succ n ih =>
        rw [List.range_succ, List.filter_append, List.length_append]
        by_cases hnk : n < k
        · have : n + 1 - k = 0 := by omega
          omega
        · simp [hnk]; omega
    exact h2 _
  intro fuel
  induction fuel with
  | zero =>
    intro listed a w β E hsz hcnt hcl hR hE hI hF; have hre : ∀ i, i < ops.size → listed.getD i false = true := by
      intro i hi; have hil : i < listed.size := by omega
      cases hx : listed.getD i false with
      | true => rfl
      | false =>
        have : i ∈ (List.range ops.size).filter fun i => !listed.getD i true := List.mem_filter.2 ⟨List.mem_range.2 hi, by
          simp only [Array.getD_eq_getD_getElem?, Array.getElem?_eq_getElem hil, Option.getD_some] at hx ⊢; simp [hx]⟩
        have := List.length_pos_of_mem this; omega
    have hall : ∀ i, i < ops.size → (listed.getD i false = true ↔ i < k) := fun i hi => ⟨fun h => (hcl i _ (Array.getElem?_eq_getElem hi) h).1, fun _ => hre i hi⟩; refine hQ 0 listed a w β hsz hall (Nat.le_trans (hcount _ hsz hall) hcnt) hR fun t => ?_; rw [← (hI.iff (L' := (· < k)) fun i hi => hall i hi).uniq hEf t]; exact hE t
  | succ fuel ih =>
    intro listed a w β E hsz hcnt hcl hR hE hI hF
    by_cases hfull : ∀ i, i < k → listed.getD i false = true
    · have hall : ∀ i, i < ops.size → (listed.getD i false = true ↔ i < k) := fun i hi => ⟨fun h => (hcl i _ (Array.getElem?_eq_getElem hi) h).1, fun h => hfull i h⟩
      refine hQ (fuel + 1) listed a w β hsz hall (Nat.le_trans (hcount _ hsz hall) hcnt) hR fun t => ?_; rw [← (hI.iff (L' := (· < k)) fun i hi => hall i hi).uniq hEf t]; exact hE t
    have hsome : ∃ i, i < k ∧ listed.getD i false = false := Classical.byContradiction fun hn => hfull fun i hi => by
      cases hx : listed.getD i false with
      | true => rfl
      | false => exact absurd ⟨i, hi, hx⟩ hn
    obtain ⟨i0, hi0, hli0⟩ := hsome; refine ⟨fun hre => ?_, fun j hj => ?_⟩
    · exfalso
      have hallt : ∀ n i, i < n → i < k → listed.getD i false = true := by
        intro n
        induction n with
        | zero => intro i hi; omega
        | succ n ihn =>
          intro i hi hik; rcases Nat.lt_or_ge i n with hlt | hge
          · exact ihn i hlt hik
          · have hin : i = n := by omega
            subst hin; have his : i < ops.size := by omega
            by_cases hl : listed.getD i false = true
            · exact hl
            · exfalso
              have hoi : ops[i]? = some ops[i] := Array.getElem?_eq_getElem his; have : i ∈ Region.ready .any ops listed := mem_ready.2 ⟨by
                have hli : i < listed.size := by omega
                simp only [Array.getD_eq_getD_getElem?, Array.getElem?_eq_getElem hli, Option.getD_some] at hl ⊢
                simpa using hl, ops[i], hoi, fun e he hb => ihn e.on (hlow i _ hoi e he hb) (Nat.lt_trans (hlow i _ hoi e he hb) hik)⟩
              rw [hre] at this
              cases this
      have := hallt k i0 hi0 hi0; rw [hli0] at this
      cases this
    obtain ⟨hun, oj, hoj, hedges⟩ := mem_ready.1 hj; have hjs : j < ops.size := (Array.getElem?_eq_some_iff.1 hoj).1; have hjl : j < listed.size := by omega
    have hLj : ¬ listed.getD j false = true := by
      simp only [Array.getD_eq_getD_getElem?, Array.getElem?_eq_getElem hjl, Option.getD_some] at hun ⊢; simp [hun]
    have hjk : j < k := by
      rcases Nat.lt_or_ge j k with h | h
      · exact h
      · exfalso
        have := q6m (listed := fun i => listed.getD i false = true) (fun i oi hoi hLi => (hcl i oi hoi hLi).2) ops.size j i0 oj hoj hedges (htl j hjs h i0 (by omega)); rw [hli0] at this
        cases this
    have hrdy : q8g oj j listed := ⟨by simpa using hLj, hedges⟩; have hdj : q14 ops j = oj.dst := by simp [q14, hoj]
    have ap1 : ∀ i oi, i < j → ops[i]? = some oi → ¬ listed.getD i false = true → oi.apart ops oj = true := fun i oi hij hoi hLi => hap i j oi oj hij hoi hoj fun e he hb heq => hLi (by rw [← heq]; exact hedges e he hb); have ap2 : ∀ i oi, j < i → ops[i]? = some oi → listed.getD i false = true → oj.apart ops oi = true := fun i oi hij hoi hLi => hap j i oj oi hij hoj hoi fun e he hb heq => hLj (by rw [← heq]; exact (hcl i oi hoi hLi).2 e he hb); have hag : ∀ t ∈ oj.looksAt ops, E t = Ej j t := hI.agree (hEj j hjk) hjs hLj
      (fun i hij hLi d hd => by
        have his : i < ops.size := Nat.lt_trans hij hjs; have hoi : ops[i]? = some ops[i] := Array.getElem?_eq_getElem his; exact (Oper.apart_spec (ap1 i _ hij hoi hLi)).1 d (by simpa [q14, hoi] using hd))
      (fun i hij his hLi d hd => by
        have hoi : ops[i]? = some ops[i] := Array.getElem?_eq_getElem his; exact (Oper.apart_spec (ap2 i _ hij hoi hLi)).2.2 d (by simpa [q14, hoi] using hd))
    have hstep := hI.step hjs fun k' hjk hks hLk d hd hd' => by
      have hok' : ops[k']? = some ops[k'] := Array.getElem?_eq_getElem hks; exact (Oper.apart_spec (ap2 k' _ hjk hok' hLk)).2.1 d (by rw [← hdj]; exact hd) (by simpa [q14, hok'] using hd')
    have hgetset : ∀ (i : Nat) (b : Bool), (listed.setIfInBounds j true).getD i b = if j = i then true else listed.getD i b := fun i b => by
      by_cases hji : j = i
      · subst hji
        rw [if_pos rfl]; simp [hjl]
      · rw [if_neg hji]
        simp [hji]
    have hdok : dok nt oj.dst = true := by
      have := List.all_eq_true.1 hdst oj (Array.mem_toList_iff.2 (Array.mem_of_getElem? hoj)); exact this
    -- what follows
    have hnext : ∀ a' w' β', Rel C ⟨nb, [], H (listed.setIfInBounds j true), N (listed.setIfInBounds j true), nt⟩ a' w' β' → (∀ t, rep w' β' (N (listed.setIfInBounds j true)) (own β' (H (listed.setIfInBounds j true)) C.A) (q2v E oj.dst (r j) t) (a'.tmps.getD t undef)) →
        wpAny P .any ops Q fuel (listed.setIfInBounds j true) a' w' := by
      intro a' w' β' hR' hE'; refine ih _ a' w' β' (q2v E (q14 ops j) (r j)) (by simpa using hsz) ?_ ?_ hR' (by rw [hdj]; exact hE') ?_ ?_
      · have := qu1 (p := fun i => !listed.getD i true) (q := fun i => !(listed.setIfInBounds j true).getD i true) (x := j) List.nodup_range (List.mem_range.2 hjs) (by simp only [hun]; rfl) (by simp only [hgetset, if_true]; rfl) (fun y hy => by simp only [hgetset, if_neg (Ne.symm hy)])
        omega
      · intro i oi hoi hLi
        rw [hgetset] at hLi
        by_cases hji : j = i
        · subst hji
          rw [hoj] at hoi; simp only [Option.some.injEq] at hoi; subst hoi; refine ⟨hjk, fun e he hb => ?_⟩; rw [hgetset]
          split
          · rfl
          · exact hedges e he hb
        · rw [if_neg hji] at hLi
          refine ⟨(hcl i oi hoi hLi).1, fun e he hb => ?_⟩; rw [hgetset]
          split
          · rfl
          · exact (hcl i oi hoi hLi).2 e he hb
      · refine hstep.iff fun i _ => ?_
        rw [hgetset]
        constructor
        · rintro (h1 | h1)
          · split
            · rfl
            · exact h1
          · rw [if_pos h1.symm]
        · intro h1
          by_cases hji : j = i
          · exact .inr hji.symm
          · rw [if_neg hji] at h1; exact .inl h1
      · intro f hf
        rw [hgetset]
        split
        · rfl
        · exact hF f hf
    have hput : ∀ v w' β' hp0 nx0, Rel C ⟨nb, [], hp0, nx0, nt⟩ a w' β' → rep w' β' nx0 (own β' hp0 C.A) (r j) v → (∀ t, rep w' β' nx0 (own β' hp0 C.A) (E t) (a.tmps.getD t undef)) →
        Rel C ⟨nb, [], hp0, nx0, nt⟩ (a.put oj.dst v) w' β' ∧ ∀ t, rep w' β' nx0 (own β' hp0 C.A) (q2v E oj.dst (r j) t) ((a.put oj.dst v).tmps.getD t undef) := by
      intro v w' β' hp0 nx0 hR' hv hE'; refine ⟨?_, ?_⟩
      · have hz : (a.put oj.dst v).tmps.size = a.tmps.size := by cases hdd : oj.dst <;> simp [Act.put]
        have hf : (a.put oj.dst v).defers = a.defers := by cases hdd : oj.dst <;> rfl
        exact { df := by rw [hf]; exact hR'.df, nt := by rw [hz]; exact hR'.nt, ntc := hR'.ntc, nb := hR'.nb, alt := hR'.alt, hp := hR'.hp, ext := hR'.ext, env := fun t => by simp only [q0t, rep] }
      · intro t
        cases hdd : oj.dst with
        | none => simp only [q2v, Act.put]; exact hE' t
        | some d =>
          simp only [q2v, Act.put]; have hlt : d < a.tmps.size := by
            rw [hdd] at hdok; simp only [dok, decide_eq_true_eq] at hdok; rw [hR.nt]; exact hdok
          rw [ql5 _ _ _ _ _ hlt]
          split
          · exact hv
          · exact hE' t
    have hev : ∀ x, rep w β (N listed) (own β (H listed) C.A) (evF E x) (a.eval x) := fun x => by
      cases x with
      | tmp t => exact hE t
      | const v => simp only [evF, rep, Act.eval]
      | global g => simp only [evF, rep, Act.eval]
      | func f => simp only [evF, rep, Act.eval]; exact ⟨[], rfl, by simp [p8]⟩
    unfold wpOp; rw [hoj]; simp only
    cases hie : isE j with
    | true =>
      have heff := he listed j oj hsz hjk hoj hcl hF hrdy hie E hI hag a w β hR hE _ Q hnext
      by_cases hw : Region.wanted oj (yielded ops a.tmps) = true
      · rw [if_pos hw] at heff ⊢
        exact .inl heff
      · rw [if_neg hw] at heff ⊢
        exact heff
    | false =>
      obtain ⟨hq1, hHe, hNe⟩ := hq listed j oj hsz hjk hoj hcl hF hrdy hie; have hQj := z5s (fun t ht => (hag t ht).symm) hq1; have hnextq : ∀ v w', Still w w' → rep w' β (N listed) (own β (H listed) C.A) (r j) v → wpAny P .any ops Q fuel (listed.setIfInBounds j true) (a.put oj.dst v) w' := fun v w' hst hv => by
        obtain ⟨h1, h2⟩ := hput v w' β (H listed) (N listed) (hR.still hst) hv (fun t => qv5 (s := ⟨nb, [], H listed, N listed, nt⟩) (C := C) hst (hE t)); exact hnext _ w' β (by rw [hHe, hNe]; exact h1) (by rw [hHe, hNe]; exact h2)
      unfold QG at hQj
      split at hQj
      · rename_i hg
        rw [if_pos (by simp [Region.wanted, hg])]; exact .inl (qu5 hR hev hQj hnextq)
      · rename_i g want hg
        split at hQj
        · rename_i d hd
          split at hQj
          · rename_i gb hgb
            obtain ⟨r0, h1, h2⟩ := hQj; have hw := q8j hg hd hgb (hE d); rw [hw]
            cases gb with
            | true =>
              rw [if_pos rfl]; exact .inl (qu5 hR hev (h1 rfl) fun v w' hst hv => hnextq v w' hst (by rw [h2]; exact ql1 hv))
            | false =>
              rw [if_neg (by simp)]; exact hnextq undef w (Still.refl w) (by rw [h2]; exact qi1)
          · exact hQj.elim
        · exact hQj.elim
end
end Go.Proofs.YtbcbcdbkdljjlaaGreat

namespace Go.Proofs.YtbcbcdbkdljjlaaGreat
open Go Go.RowKit
section
variable {P : Program}
theorem z8g {ops : Array Oper} {s : St} {K : St → Prop} (k : Nat) (hm : P.follows .mixedOrders = true) (hk : k ≤ ops.size) (ht : qh0 ops k = true)
    (h : vcQ P ops (ops.toList.take k) s fun s' => q86 P ops (ops.toList.drop k) s' K) : qp5 P ops s K := by
  intro id hok C a w β hR Q' hQ; simp only [okB, Bool.and_eq_true, Bool.not_true, Bool.false_or] at hok; obtain ⟨hdst, hdraw⟩ := hok; obtain ⟨r, h1, h2⟩ := z3y (ops.toList.take k) s 0 h; have hf := q8h (ops := ops) r s k hk; obtain ⟨e1, e2, e3, e4⟩ := qs8 r (ops.toList.take k) 0 s; have hst : Still w { w with drawn := w.drawn + 1 } := ⟨rfl, rfl, ⟨rfl, by first | exact Nat.le_refl _ | exact Nat.le_succ _⟩, Nat.le_refl _, fun _ _ => rfl⟩; have hR0 : Rel C ⟨s.nb, [], s.hp, s.nx, s.nt⟩ a { w with drawn := w.drawn + 1 } β := by
    have := hR.still (w' := { w with drawn := w.drawn + 1 }) hst; exact { df := this.df, nt := this.nt, ntc := this.ntc, nb := this.nb, alt := this.alt, hp := this.hp, ext := this.ext, env := fun t => by simp only [q0t, rep] }
  have hE0 := (hR.still (w' := { w with drawn := w.drawn + 1 }) hst).env; refine wp_region_any hm (qv3 (C := C) (nb := s.nb) (nt := s.nt) (r := r) (E0 := q0t s.env) (Ej := fun j => q0t (q12 (ops.toList.take j) r 0 s).env) (k := k) hdraw ht hk hdst (fun j hj => q8h r s j (by omega)) [] (fun _ => false) (fun _ => s.hp) (fun _ => s.nx)
    (fun listed j oj _ hj hoj _ _ _ _ => ⟨?_, rfl, rfl⟩) (fun _ _ _ _ _ _ _ _ _ hx => by cases hx) hf (fun fuel listed a' w' β' hsz hL hfu hR' hE' => ?_)
    ops.size (Array.replicate ops.size false) a _ β (q0t s.env) (by simp) ?_ ?_ hR0 hE0 ?_ (fun _ h => by cases h))
  · have := h1 j oj (by rw [List.getElem?_take, if_pos hj]; simpa using hoj)
    rw [Nat.zero_add, List.take_take, Nat.min_eq_left (by omega)] at this; exact this
  · refine z4b (k := k) (K := K) hdraw ht (fun a w ⟨s', β', hR', hk'⟩ => hQ _ _ _ _ _ hR' ⟨rfl, hk'⟩) fuel k listed (q12 (ops.toList.take k) r 0 s) a' w' β' (Nat.le_refl _) hk hsz hL hfu (by rw [e3]; exact hdst) ?_ h2
    exact { df := hR'.df, nt := by rw [e3]; exact hR'.nt, ntc := by rw [e3]; exact hR'.ntc, nb := by rw [e4]; exact hR'.nb, alt := hR'.alt, hp := by rw [e1, e2]; exact hR'.hp, ext := by rw [e1, e2]; exact hR'.ext, env := fun t => by rw [e1, e2]; exact hE' t }
  · exact Nat.le_trans (List.length_filter_le _ _) (by simp)
  · intro i oi _ hL
    simp [Array.getElem?_replicate] at hL
    split at hL <;> simp at hL
  · refine fun t => .inr ⟨fun i _ hL => ?_, rfl⟩
    simp [Array.getElem?_replicate] at hL
    split at hL <;> simp at hL
end
end Go.Proofs.YtbcbcdbkdljjlaaGreat

namespace Go.Proofs.YtbcbcdbkdljjlaaGreat
open Go Go.RowKit
def maskAt (ms : List Nat) (i : Nat) (es : List Edge) : Nat := es.foldr (fun e m => if Region.binds .any e && decide (e.on < i) then (1 <<< e.on) ||| (ms.getD e.on 0 ||| m) else m) 0
def qh3 (ms : List Nat) : Nat → List Oper → Bool
  | _, [] => true
  | i, o :: r => ((ms.getD i 0 ||| maskAt ms i o.after.toList) == maskAt ms i o.after.toList) && qh3 ms (i + 1) r
theorem qq1 {ms : List Nat} {i j : Nat} : ∀ {es : List Edge}, (maskAt ms i es).testBit j = true → ∃ e ∈ es, Region.binds .any e = true ∧ e.on < i ∧ (e.on = j ∨ (ms.getD e.on 0).testBit j = true)
  | [], h => by simp [maskAt] at h
  | e :: es, h => by
    have he : maskAt ms i (e :: es) = if Region.binds .any e && decide (e.on < i) then (1 <<< e.on) ||| (ms.getD e.on 0 ||| maskAt ms i es) else maskAt ms i es := rfl
    rw [he] at h
    split at h
    · rename_i hb
      simp only [Bool.and_eq_true, decide_eq_true_eq] at hb; rw [Nat.testBit_or, Nat.testBit_or, Bool.or_eq_true, Bool.or_eq_true] at h; rcases h with h | h | h
      · refine ⟨e, by simp, hb.1, hb.2, .inl ?_⟩
        rw [Nat.one_shiftLeft, Nat.testBit_two_pow] at h
        simpa using h
      · exact ⟨e, by simp, hb.1, hb.2, .inr h⟩
      · obtain ⟨e', h1, h2⟩ := qq1 h
        exact ⟨e', by simp [h1], h2⟩
    · obtain ⟨e', h1, h2⟩ := qq1 h
      exact ⟨e', by simp [h1], h2⟩
theorem z0y {ms : List Nat} : ∀ {l : List Oper} {k i : Nat} {o : Oper}, qh3 ms k l = true → l[i]? = some o → ∀ j, (ms.getD (k + i) 0).testBit j = true → (maskAt ms (k + i) o.after.toList).testBit j = true
  | [], _, _, _, _, h, _, _ => by simp at h
  | o :: l, k, 0, o', h, hi, j, hb => by
    simp only [List.getElem?_cons_zero, Option.some.injEq] at hi; subst hi; simp only [qh3, Bool.and_eq_true, beq_iff_eq] at h; rw [Nat.add_zero] at hb ⊢; rw [← h.1, Nat.testBit_or, hb, Bool.true_or]
  | o :: l, k, i + 1, o', h, hi, j, hb => by
    simp only [qh3, Bool.and_eq_true] at h; rw [show k + (i + 1) = k + 1 + i by omega] at hb ⊢; exact z0y h.2 (by simpa using hi) j hb
theorem qx4 {ops : Array Oper} : ∀ {n m i j : Nat}, n ≤ m → q2h ops n i j = true → q2h ops m i j = true
  | 0, _, _, _, _, h => by simp [q2h] at h
  | n + 1, 0, _, _, hm, _ => by omega
  | n + 1, m + 1, i, j, hm, h => by
    unfold q2h at h ⊢
    split at h
    · rename_i oi ho
      try simp only [ho]
      obtain ⟨e, he, hb⟩ := Array.any_eq_true'.1 h; refine Array.any_eq_true'.2 ⟨e, he, ?_⟩; simp only [Bool.and_eq_true, Bool.or_eq_true] at hb ⊢; refine ⟨hb.1, hb.2.imp id fun h1 => qx4 (by omega) h1⟩
    · cases h
theorem z4p {ops : Array Oper} {ms : List Nat} (h : qh3 ms 0 ops.toList = true) : ∀ (i j : Nat), i < ops.size → (ms.getD i 0).testBit j = true → q2h ops ops.size i j = true := by
  have key : ∀ (i j : Nat), i < ops.size → (ms.getD i 0).testBit j = true → q2h ops (i + 1) i j = true := by
    intro i
    induction i using Nat.strongRecOn with
    | _ i ih =>
      intro j hi hb; have ho : ops.toList[i]? = some ops[i] := by simp [hi]
      have h1 := z0y h ho j (by rw [Nat.zero_add]; exact hb); rw [Nat.zero_add] at h1; obtain ⟨e, he, hbi, hlt, h2⟩ := qq1 h1; unfold q2h; rw [Array.getElem?_eq_getElem hi]; refine Array.any_eq_true'.2 ⟨e, Array.mem_toList_iff.1 he, ?_⟩; simp only [Bool.and_eq_true, Bool.or_eq_true, beq_iff_eq]; refine ⟨hbi, h2.imp id fun h3 => qx4 (by omega) (ih e.on hlt j (by omega) h3)⟩
  intro i j hi hb; exact qx4 (by omega) (key i j hi hb)
def z3n (ms : List Nat) (n k : Nat) : Bool := (List.range n).all fun i => decide (i < k) || (ms.getD i 0 &&& (2 ^ i - 1)) == 2 ^ i - 1
theorem z4c {ops : Array Oper} {ms : List Nat} {k : Nat} (h : qh3 ms 0 ops.toList = true) (ht : z3n ms ops.size k = true) : qh0 ops k = true := by
  simp only [z3n, qh0, List.all_eq_true, List.mem_range, Bool.or_eq_true, decide_eq_true_eq, beq_iff_eq] at ht ⊢; intro i hi; rcases ht i hi with h1 | h1
  · exact .inl h1
  · refine .inr fun j hj => z4p h i j hi ?_
    have h2 : (2 ^ i - 1).testBit j = true := by rw [Nat.testBit_two_pow_sub_one]; simpa using hj
    rw [← h1, Nat.testBit_and, Bool.and_eq_true] at h2; exact h2.1
theorem q0l {P : Program} {ops : Array Oper} {s : St} {K : St → Prop} (k : Nat) (ms : List Nat) (hm : P.follows .mixedOrders = true) (hms : qh3 ms 0 ops.toList = true) (hk : k ≤ ops.size) (ht : z3n ms ops.size k = true)
    (h : vcQ P ops (ops.toList.take k) s fun s' => q86 P ops (ops.toList.drop k) s' K) : qp5 P ops s K := z8g k hm hk (z4c hms ht) h
end Go.Proofs.YtbcbcdbkdljjlaaGreat

namespace Go.Proofs.YtbcbcdbkdljjlaaGreat
open Go Go.RowKit
theorem OwnS.up {P : Program} {f : FuncId} {args : List AV} {sz : Nat} {rows : List (List AV)} (h : OwnS P f args 0 sz rows) (ha : q0n args = true) (nx : Nat) : OwnS P f args nx sz rows := by
  intro w β A vs hA hargs hhp; rw [q8z] at hargs; refine (h w β A vs hA (by rw [q8z]; exact q7a _ _ ha hargs) HpRel.nil).mono ?_; rintro e w' ⟨v, r', hp', nx', β', rfl, ⟨rfl, rfl, rfl⟩, hr, hh, hext⟩; have hown : own (upd β nx (β' 0)) [(nx, AObj.arr sz rows)] A = own β' [(0, AObj.arr sz rows)] A := by
    funext b
    apply propext
    constructor
    · rintro (hx | ⟨q, hq, c, hc⟩)
      · exact .inl hx
      · simp only [List.mem_singleton] at hq; subst hq
        rw [q10] at hc; exact .inr ⟨_, List.mem_singleton.2 rfl, c, hc⟩
    · rintro (hx | ⟨q, hq, c, hc⟩)
      · exact .inl hx
      · simp only [List.mem_singleton] at hq; subst hq
        exact .inr ⟨_, List.mem_singleton.2 rfl, c, by rw [q10]; exact hc⟩
  refine ⟨v, _, [(nx, .arr sz rows)], nx + 1, upd β nx (β' 0), rfl, ⟨rfl, rfl, rfl⟩, ?_, ?_, ?_⟩
  · rw [hown]
    simp only [rep] at hr ⊢; rw [q10]; exact ⟨Nat.lt_succ_self _, hr.2⟩
  · refine ⟨fun p hp => ?_, fun p hp => ?_, by simp, fun p hp q hq b c c' h1 h2 => ?_, fun p hp b c h1 => ?_⟩
    · simp only [List.mem_singleton] at hp; subst hp
      have := hh.obj _ (List.mem_singleton.2 rfl); rw [hown]; simp only [q6x, q10] at this ⊢; rcases this with h1 | ⟨b, C, cur, e, h1, h2, h3, h4, h5, h6⟩
      · exact .inl h1
      · exact .inr ⟨b, C, cur, e, h1, h2, h3, h4, h5, q1e (Agree.refl _ _) _ _ (fun _ _ hx => hx) _ _ h6⟩
    · simp only [List.mem_singleton] at hp; subst hp; exact Nat.lt_succ_self _
    · simp only [List.mem_singleton] at hp hq; subst hp; subst hq; rfl
    · simp only [List.mem_singleton] at hp; subst hp
      rw [q10] at h1; exact hh.av _ (List.mem_singleton.2 rfl) b c h1
  · refine ⟨Nat.le_succ _, fun id hid => q1q _ _ _ _ hid, fun p hp => ?_, fun p hp b c h1 => ?_, hext.os, hext.tape, hext.output, hext.size, hext.keep⟩
    · simp only [List.mem_singleton] at hp; subst hp; exact .inr (Nat.le_refl _)
    · simp only [List.mem_singleton] at hp; subst hp
      rw [q10] at h1; exact hext.blk _ (List.mem_singleton.2 rfl) b c h1
def zl4 (r : AV) (cs' : List AV) (id nx : Nat) (r' : AV) (hp' : Hp) (nx' : Nat) : Prop := r' = r ∧ hp' = [(id, .box cs')] ∧ nx' = nx
def MutS (P : Program) (f : FuncId) (args : Nat → List AV) (cs : List AV) (r : AV) (cs' : List AV) : Prop := Spec P f (args 0) [(0, .box cs)] 1 (zl4 r cs' 0 1)
def q4q (id : Nat) : List AV → Bool
  | [] => true
  | .ptr i _ :: r => i == id && q4q id r
  | a :: r => q0y a && q4q id r
section
variable {w : World} {β β' : Ghost} {ow : Nat → Prop}
def q87 (id : Nat) : List AV → List AV
  | [] => []
  | .ptr _ off :: r => .ptr id off :: q87 id r
  | a :: r => a :: q87 id r
theorem q7f {id nx : Nat} {x : Option (Nat × Nat)} (hx : β id = x) : ∀ (as : List AV) (us : List Value), q4q 0 as = true → p8 w β nx ow (q87 id as) us → p8 w (fun i => if i = 0 then x else none) 1 ow as us
  | [], [], _, _ => by simp only [p8]
  | .ptr i off :: as, u :: us, hf, h => by
    simp only [q4q, Bool.and_eq_true, beq_iff_eq] at hf; simp only [q87, p8, rep] at h ⊢; obtain ⟨⟨h1, b, C, h2, h3⟩, h4⟩ := h; obtain ⟨rfl, hf⟩ := hf; exact ⟨⟨by omega, b, C, by rw [if_pos rfl, ← hx]; exact h2, h3⟩, q7f hx as us hf h4⟩
  | .v x :: as, u :: us, hf, h => by
    simp only [q4q, Bool.and_eq_true] at hf; simp only [q87, p8] at h ⊢; exact ⟨q6p _ _ hf.1 h.1, q7f hx as us hf.2 h.2⟩
  | .apt .. :: as, u :: us, hf, h => by simp [q4q, q0y] at hf
  | .sl sz xs :: as, u :: us, hf, h => by
    simp only [q4q, Bool.and_eq_true] at hf; simp only [q87, p8] at h ⊢; exact ⟨q6p _ _ hf.1 h.1, q7f hx as us hf.2 h.2⟩
  | .osl .. :: as, u :: us, hf, h => by simp [q4q, q0y] at hf
  | .bsl .. :: as, u :: us, hf, h => by simp [q4q, q0y] at hf
  | .el .. :: as, u :: us, hf, h => by
    simp only [q4q, Bool.and_eq_true] at hf; simp only [q87, p8] at h ⊢; exact ⟨q6p _ _ hf.1 h.1, q7f hx as us hf.2 h.2⟩
  | .agg .. :: as, u :: us, hf, h => by
    simp only [q4q, Bool.and_eq_true] at hf; simp only [q87, p8] at h ⊢; exact ⟨q6p _ _ hf.1 h.1, q7f hx as us hf.2 h.2⟩
  | .tup .. :: as, u :: us, hf, h => by
    simp only [q4q, Bool.and_eq_true] at hf; simp only [q87, p8] at h ⊢; exact ⟨q6p _ _ hf.1 h.1, q7f hx as us hf.2 h.2⟩
  | .clo .. :: as, u :: us, hf, h => by
    simp only [q4q, Bool.and_eq_true] at hf; simp only [q87, p8] at h ⊢; exact ⟨q6p _ _ hf.1 h.1, q7f hx as us hf.2 h.2⟩
  | .grd .. :: as, u :: us, hf, h => by
    simp only [q4q, Bool.and_eq_true] at hf; simp only [q87, p8] at h ⊢; exact ⟨q6p _ _ hf.1 h.1, q7f hx as us hf.2 h.2⟩
  | .junk :: as, u :: us, hf, h => by simp [q4q, q0y] at hf
  | [], _ :: _, _, h => by simp only [q87, p8] at h
  | a :: as, [], _, h => by cases a <;> simp only [q87, p8] at h
end
theorem MutS.up {P : Program} {f : FuncId} {args : Nat → List AV} {cs cs' : List AV} {r : AV} (h : MutS P f args cs r cs') (id nx : Nat) (hid : id < nx) (ha : q4q 0 (args 0) = true) (ht : q87 id (args 0) = args id) (hc : q0n cs = true) (hc' : q0n cs' = true) (hr : q0y r = true) :
    Spec P f (args id) [(id, .box cs)] nx (zl4 r cs' id nx) := by
  intro w β A vs hA hargs hhp; rw [← ht] at hargs
  let β1 : Ghost := fun i => if i = 0 then β id else none
  have h10 : β1 0 = β id := by simp [β1]
  have hown : ∀ cs0, own β1 [(0, AObj.box cs0)] A = own β [(id, AObj.box cs)] A := fun cs0 => by
    funext b
    apply propext
    constructor
    · rintro (hx | ⟨q, hq, c, hc⟩)
      · exact .inl hx
      · simp only [List.mem_singleton] at hq; subst hq
        exact .inr ⟨_, List.mem_singleton.2 rfl, c, by rw [← h10]; exact hc⟩
    · rintro (hx | ⟨q, hq, c, hc⟩)
      · exact .inl hx
      · simp only [List.mem_singleton] at hq; subst hq
        exact .inr ⟨_, List.mem_singleton.2 rfl, c, by simp only at hc ⊢; rw [h10]; exact hc⟩
  have hh1 : HpRel w β1 1 A [(0, .box cs)] := by
    refine ⟨fun p hp => ?_, fun p hp => ?_, by simp, fun p hp q hq b c c' h1 h2 => ?_, fun p hp b c h1 => ?_⟩
    · simp only [List.mem_singleton] at hp; subst hp
      obtain ⟨b, C, cur, e, h1, h2, h3⟩ := hhp.obj _ (List.mem_singleton.2 rfl); rw [hown]; exact ⟨b, C, cur, e, by rw [h10]; exact h1, h2, q7a _ _ hc h3⟩
    · simp only [List.mem_singleton] at hp; subst hp; exact Nat.lt_succ_self _
    · simp only [List.mem_singleton] at hp hq; subst hp; subst hq; rfl
    · simp only [List.mem_singleton] at hp; subst hp
      exact hhp.av _ (List.mem_singleton.2 rfl) b c (by simp only at h1 ⊢; rw [← h10]; exact h1)
  refine (h w β1 A vs hA (by rw [hown]; exact q7f rfl _ _ ha hargs) hh1).mono ?_; rintro e w' ⟨v, r', hp', nx', β', rfl, ⟨rfl, rfl, rfl⟩, hrv, hh, hext⟩; have hb0 : β' 0 = β id := (hext.gh 0 (by omega)).trans h10; have hown' : own β' [(0, AObj.box cs')] A = own β [(id, AObj.box cs')] A := by
    funext b
    apply propext
    constructor
    · rintro (hx | ⟨q, hq, c, hc⟩)
      · exact .inl hx
      · simp only [List.mem_singleton] at hq; subst hq
        exact .inr ⟨_, List.mem_singleton.2 rfl, c, by simp only at hc ⊢; rw [← hb0]; exact hc⟩
    · rintro (hx | ⟨q, hq, c, hc⟩)
      · exact .inl hx
      · simp only [List.mem_singleton] at hq; subst hq
        exact .inr ⟨_, List.mem_singleton.2 rfl, c, by simp only at hc ⊢; rw [hb0]; exact hc⟩
  refine ⟨v, _, [(id, .box cs')], nx, β, rfl, ⟨rfl, rfl, rfl⟩, ?_, ?_, ?_⟩
  · rw [hown'] at hrv
    exact q6p _ _ hr hrv
  · refine ⟨fun p hp => ?_, fun p hp => ?_, by simp, fun p hp q hq b c c' h1 h2 => ?_, fun p hp b c h1 => ?_⟩
    · simp only [List.mem_singleton] at hp; subst hp
      obtain ⟨b, C, cur, e, h1, h2, h3⟩ := hh.obj _ (List.mem_singleton.2 rfl); rw [hown'] at h3; exact ⟨b, C, cur, e, by rw [← hb0]; exact h1, h2, q7a _ _ hc' h3⟩
    · simp only [List.mem_singleton] at hp; subst hp; exact hid
    · simp only [List.mem_singleton] at hp hq; subst hp; subst hq; rfl
    · simp only [List.mem_singleton] at hp; subst hp
      exact hh.av _ (List.mem_singleton.2 rfl) b c (by simp only at h1 ⊢; rw [hb0]; exact h1)
  · refine ⟨Nat.le_refl _, fun _ _ => rfl, fun p hp => ?_, fun p hp b c h1 => ?_, hext.os, hext.tape, hext.output, hext.size, fun b hb hnb => hext.keep b hb ?_⟩
    · simp only [List.mem_singleton] at hp; subst hp; exact .inl (by simp)
    · simp only [List.mem_singleton] at hp; subst hp
      exact .inl ⟨_, List.mem_singleton.2 rfl, c, h1⟩
    · rintro ⟨q, hq, c, hc⟩
      simp only [List.mem_singleton] at hq; subst hq; exact hnb ⟨_, List.mem_singleton.2 rfl, c, by rw [← h10]; exact hc⟩
theorem z2t {id : Nat} {o o' : AObj} : ∀ {hp : Hp}, q1b hp id = some o → (hp.map (·.1)).Nodup → hp.Perm ((id, o) :: q4v hp id) ∧ (q2w hp id o').Perm ((id, o') :: q4v hp id)
  | [], h, _ => by simp [q1b] at h
  | (k, q) :: r, h, hn => by
    simp only [List.map_cons, List.nodup_cons] at hn; unfold q1b at h
    split at h
    · rename_i hk
      simp only [Option.some.injEq] at h; subst hk; subst h; have hd : q4v r k = r := by
        have : ∀ (r : Hp), k ∉ r.map (·.1) → q4v r k = r := by
          intro r
          induction r with
          | nil => intro _; rfl
          | cons p r ih =>
            intro hm; simp only [List.map_cons, List.mem_cons, not_or] at hm; unfold q4v; rw [if_neg (Ne.symm hm.1), ih hm.2]
        exact this r hn.1
      simp [q4v, q2w, hd]
    · rename_i hk
      obtain ⟨h1, h2⟩ := z2t (o' := o') h hn.2; simp only [q4v, q2w, if_neg hk]; exact ⟨(h1.cons _).trans (List.Perm.swap _ _ _), (h2.cons _).trans (List.Perm.swap _ _ _)⟩
end Go.Proofs.YtbcbcdbkdljjlaaGreat

namespace Go.Proofs.YtbcbcdbkdljjlaaGreat
open Go Go.RowKit
end Go.Proofs.YtbcbcdbkdljjlaaGreat

namespace Go.Proofs.YtbcbcdbkdljjlaaGreat
open Go Go.RowKit
theorem zq2 (b : Bool) : (b == true) = b := by cases b <;> rfl
theorem zq3 (b : Bool) : (b == false) = !b := by cases b <;> rfl
theorem zq0 (b : Bool) : ((!b) = true) = (b = false) := by cases b <;> simp
theorem zq1 (b : Bool) : ((!b) = false) = (b = true) := by cases b <;> simp
theorem zc1 {α : Type} (x : α) (l r : List α) : List.append (x :: l) r = x :: List.append l r := rfl
theorem zh0 {α : Type} (r : List α) : List.append [] r = r := rfl
section
variable (P : Program) (Q : Exit → St → Prop) (s : St)
def zc8 (ops : Array Oper) (r : List Oper) (K : St → Prop) (s : St) : Prop := q86 P ops r s K
theorem za1 (ops r K) (s : St) : zc8 P ops r K s = q86 P ops r s K := rfl
theorem z8r (ops) (K : St → Prop) : q86 P ops [] s K = K s := rfl
theorem z7e (ops o r) (K : St → Prop) : q86 P ops (o :: r) s K = vcG P ops o s (zc8 P ops r K) := rfl
theorem ze2 : vc P .skip Q s = Q .normal s := rfl
theorem z9m (i) : vc P (.label i) Q s = Q .normal s := rfl
theorem zi1 : vc P .ret Q s = Q .ret s := rfl
theorem ze4 (i) : vc P (.exit i) Q s = Q (.exit i) s := rfl
theorem z8q (id ops draw) : vc P (.region id ops draw) Q s = if draw = true then qp5 P ops s (Q .normal) else q86 P ops ops.toList s (Q .normal) := rfl
def ql0 (b : Code) : Exit → St → Prop := q6c (kont P b Q) Q
theorem zi9 (b : Code) : ql0 P Q b .normal s = kont P b Q s := rfl
theorem zj0 (b : Code) (i) : ql0 P Q b (.exit i) s = Q (.exit i) s := rfl
theorem zi8 (b : Code) : ql0 P Q b .ret s = Q .ret s := rfl
theorem z3x (a b) : vc P (.seq a b) Q s = if joins a = true then wpV P (.seq a b) Q s else vc P a (ql0 P Q b) s := rfl
theorem ze5 (c x y) : vc P (.cond c x y) Q s = match evE s.env c with
    | .v (.bool b) => (b = true → zk9 P x Q s) ∧ (b = false → zk9 P y Q s)
    | _ => False := rfl
theorem z9n (i c) : vc P (.block i c) Q s = vc P c (q8u i Q) s := rfl
theorem ze3 (c) : vc P (.loop c) Q s = wpV P (.loop c) Q s := rfl
variable (N : St → Prop)
theorem zf1 : q6c N Q .normal s = N s := rfl
theorem zf2 (i) : q6c N Q (.exit i) s = Q (.exit i) s := rfl
theorem zf0 : q6c N Q .ret s = Q .ret s := rfl
theorem zb7 (i) : q8u i Q .normal s = Q .normal s := rfl
theorem zb8 (i j) : q8u i Q (.exit j) s = if j = i then Q .normal s else Q (.exit j) s := rfl
theorem zb6 (i) : q8u i Q .ret s = Q .ret s := rfl
variable (res : List ResultVar) (R : AV → Hp → Nat → Prop)
theorem zj3 : z7j P res R .normal s = match qe4 P s.hp s.env res with
    | some (c, rs) => c ∧ z07 s (oneOf rs) R
    | none => False := rfl
theorem zj2 : z7j P res R .ret s = match qe4 P s.hp s.env res with
    | some (c, rs) => c ∧ z07 s (oneOf rs) R
    | none => False := rfl
end
def quK (P : Program) (ops : Array Oper) (r : List Oper) (K : St → Prop) (s : St) (dst : Option Nat) (x : AV) : Prop := vcQ P ops r (s.put dst x) K
theorem zj5 (P : Program) (ops : Array Oper) (r : List Oper) (K : St → Prop) (s : St) (dst : Option Nat) (x : AV) : quK P ops r K s dst x = vcQ P ops r (s.put dst x) K := rfl
theorem ze7 (P : Program) (ops : Array Oper) (s : St) (K : St → Prop) : vcQ P ops [] s K = K s := rfl
theorem z9o (P : Program) (ops : Array Oper) (o : Oper) (r : List Oper) (s : St) (K : St → Prop) : vcQ P ops (o :: r) s K = qG P ops s o (quK P ops r K s o.dst) := rfl
def exQ (P : Program) (f : FuncId) (args : List AV) (nx : Nat) (g : Bool) (K : AV → Prop) : Prop := ∃ r, (g = true → PureS P f args nx r) ∧ K r
def exK (g : Bool) (K : AV → Prop) (r : AV) : Prop := K (mkG g r)
theorem zk4 (g : Bool) (K : AV → Prop) (r : AV) : exK g K r = K (mkG g r) := rfl
theorem zm2 (P : Program) (s : St) (op : Op) (K : AV → Prop) : qG.qO P s op K = match q8k P s.hp (evE s.env) op with
  | some (c, r) => c ∧ K r
  | none => qG.qX P s op true K := rfl
def qr2 (P : Program) (o : Oper) (K : AV → Prop) (s : St) (g : Bool) : Prop := (g = true → qG.qO P s o.op (exK true K)) ∧ (g = false → K (mkG false .junk))
theorem z9v (P : Program) (o : Oper) (K : AV → Prop) (s : St) : qr2 P o K s true = qG.qO P s o.op (exK true K) := by simp [qr2]
theorem z9w (P : Program) (o : Oper) (K : AV → Prop) (s : St) : qr2 P o K s false = K (mkG false .junk) := by simp [qr2]
theorem zm3 (P : Program) (ops : Array Oper) (s : St) (o : Oper) (K : AV → Prop) : qG P ops s o K = match o.guard with
  | none => qG.qO P s o.op K
  | some (j, want) => match q14 ops j with
    | some d => match qh5 (q0t s.env d) want with
      | some g => if z0n o.op = true then qr2 P o K s g else match q8k P s.hp (evE s.env) o.op with
        | some (c, r) => (g = true → c) ∧ K (mkG g r)
        | none => if bsO o.op = true then qG.qX P s o.op g (exK g K) else qr2 P o K s g
      | none => False
    | none => False := rfl
def qXs (P : Program) (s : St) (op : Op) (g : Bool) (K : AV → Prop) : Prop := match op with
    | .call c => match c.callee, c.args.toList, c.argTypes.toList with
      | .value fo, args, _ => match (evE s.env fo).st with
        | .clo f caps => (g = true → (True ∧ (evE s.env fo).need ∧ needs (args.map (evE s.env)) ∧ q0n ((args.map fun x => (evE s.env x).st) ++ caps) = true)) ∧ exQ P f ((args.map fun x => (evE s.env x).st) ++ caps) 0 g K
        | _ => False
      | _, _, _ => False
    | .buildSlice t n parts => match sliceT P t, qf9 (parts.toList.map fun p => (evE s.env p.2).st) with
      | some e, some rs => match q0i P e with
        | some zs => (g = true → q0j P e = true ∧ zs.length = szT P e ∧ 0 < szT P e ∧ n * szT P e ≤ 16777216 ∧ q7z parts.toList 0 = true ∧ parts.toList.length = n ∧ needs (parts.toList.map fun p => evE s.env p.2) ∧ qb5 (szT P e) rs = true ∧
              rs.flatten.all q9w = true ∧ rs.flatten.all q8y = true) ∧ K (.sl (szT P e) (rs.map (q13 (q0r P e))))
        | none => False
      | _, _ => False
    | .makeSlice t l c => match (evE s.env l).st, (evE s.env c).st, sliceT P t with
      | .v (.int _ n), .v (.int _ m), some e => match q0i P e with
        | some zs => (g = true → (evE s.env l).need ∧ (evE s.env c).need ∧ m = n ∧ q0j P e = true ∧ zs.length = szT P e ∧ 0 < szT P e ∧ 0 < q0h P e ∧ 0 ≤ n ∧ n * q0h P e ≤ 140737488355328 ∧ zs.all (·.oneCell') = true) ∧
            K (.sl (szT P e) (List.replicate n.toNat (q13 (q0r P e) (zs.map AV.v))))
        | none => False
      | _, _, _ => False
    | _ => False
theorem zm1 (P : Program) (s : St) (op : Op) (g : Bool) (K : AV → Prop) : qG.qX P s op g K = qXs P s op g K := by
  unfold qG.qX qXs
  cases op <;> try rfl
  rename_i c
  simp only
  cases c.callee <;> try rfl
  rename_i fo
  simp only
  cases (evE s.env fo).st <;> try rfl
  simp only [exQ]; apply propext
  constructor
  · rintro ⟨r, h1, h2⟩
    exact ⟨fun hg => (h1 hg).1, r, fun hg => (h1 hg).2, h2⟩
  · rintro ⟨h1, r, h2, h3⟩
    exact ⟨r, fun hg => ⟨h1 hg, h2 hg⟩, h3⟩
theorem callq {P : Program} {f : FuncId} {args args' : List AV} {nx : Nat} {g : Bool} {K : AV → Prop} {r : AV} (h : g = true → PureS P f args' 0 r) (ha : args = args') (hf : q0n args' = true) (hk : K r) : exQ P f args nx g K := by
  subst ha; exact ⟨r, fun hg => (h hg).up hf nx, hk⟩
theorem zf6 {P : Program} {Q : Exit → St → Prop} {s : St} {x y : Code} (h : vc P x (ql0 P Q y) s) : wpV P (.seq x y) Q s := zi7 h
attribute [go_sem] z7t q13 bsO and_assoc Nat.lt_irrefl Option.isSome_some Option.isSome_none ze2 z9m zi1 ze4 z8q z3x ze5 z9n ze3 joins falls za1 zb5 z8r z7e vcG z0n z9x z9y vcO vcX zj5 ze7 z9o zk4 z9v z9w zm2 zm3 zm1 qXs qh5 mkG q14 q8k fop n1 evE q0t qu2 St.put zf1 zf2 zf0 zi9 zj0 zi8 zb7 zb8 zb6 zj3 zj2 qe4 oneOf AV.st AV.need oneed Option.map_some Option.map_none z8k z1l unR z7v z7x z81 z3q z3r z16 z11 qy1 q7g z0o q6s qt8 qx3 qy4 eqR q7q eqA z5q z3o z88 z3s qg0 qf9 q9n q1b q2w q4v q3t needs q56 frz qb8 q8y q9w q7z qb5 List.map_cons List.map_nil List.flatten_cons List.flatten_nil List.all_cons List.all_nil List.append_nil List.nil_append List.cons_append List.length_cons List.length_nil List.getElem?_toArray List.getElem?_cons_zero List.getElem?_cons_succ Option.bind_some if_true if_false true_and and_true and_self Bool.false_eq_true Bool.true_eq_false Bool.or_false Bool.false_or Bool.or_true Bool.true_or Bool.and_false Bool.false_and Bool.and_true Bool.true_and Bool.not_true Bool.not_false beq_self_eq_true z7m ne_eq not_false_eq_true not_true_eq_false forall_const List.drop_zero Nat.zero_add Nat.add_zero false_implies implies_true true_implies List.getD_cons_zero List.getD_cons_succ List.drop_succ_cons List.take_succ_cons List.take_zero List.set_cons_zero List.set_cons_succ true_or or_true or_false false_or Value.oneCell' Nat.add_eq_left Nat.add_left_cancel_iff Nat.add_assoc decide_eq_true_eq decide_eq_false_iff_not ge_iff_le gt_iff_lt Int.toNat_natCast beq_iff_eq Bool.and_eq_true decide_true decide_false Int.natCast_nonneg imp_self Int.natCast_eq_zero zc1 zh0 lits zq2 zq3 bne q6n zq0 zq1 undef
attribute [go_sem] qr3 zh3 z3u z8l z2c ze0 z3t q90 AvLe AvLe.AvLeL q6o q0t q1b Nat.sub_self Nat.add_sub_cancel_left List.getD_cons_zero List.getD_cons_succ List.getD_nil if_true if_false true_and and_true and_self Option.some.injEq exists_eq_left' Nat.lt_succ_self Nat.add_eq_left Nat.left_eq_add z0w forall_const List.mem_nil_iff false_implies implies_true not_false_eq_true ne_eq exists_eq_left Nat.le_refl Nat.le_add_right Nat.lt_add_right_iff_pos Nat.add_left_cancel_iff z7q Nat.add_assoc zb1 qe3 q9v qv7 q8d z8v z6p zc6 z6o q1f q5r z0l z5e q0y q0n z6f
end Go.Proofs.YtbcbcdbkdljjlaaGreat

namespace Go.Proofs.YtbcbcdbkdljjlaaGreat
open Go Go.RowKit
def z15 (g : TypeId → Option (List (Option IntKind))) (c : TypeId → Nat) : List Field → Nat → Option (List (Option IntKind))
  | [], _ => some []
  | f :: r, o => if f.name = "_" ∨ f.offset ≠ o then none else match g f.type with
    | some sh => if c f.type = sh.length then (z15 g c r (o + sh.length)).map (sh ++ ·) else none
    | none => none
def q7j (P : Program) : Nat → TypeId → Option (List (Option IntKind))
  | 0, _ => none
  | m + 1, t => if q0j P t = true then match P.underlying t with
    | some .bool => some [none]
    | some (.int k) => some [some k]
    | some (.struct fs) => if P.stoodInHeld t = true then none else z15 (q7j P m) (szT P) fs.toList 0
    | some (.array n e) => match q7j P m e with
      | some sh => if szT P e = sh.length ∧ P.cellsOf e = sh.length then some (List.replicate n sh).flatten else none
      | none => none
    | _ => none else none
def VT (P : Program) (t : TypeId) (us : List Value) (x : Value) : Prop := match P.underlying t with
  | some (.struct _) => x = .agg ⟨us⟩
  | some (.array _ _) => x = .agg ⟨us⟩
  | _ => us = [x]
theorem qj5 : ∀ {us : List Value} {sh}, q15 us = some sh → us.length = sh.length
  | [], sh, h => by simp [q15] at h; subst h; rfl
  | u :: r, sh, h => by
    cases u <;> simp only [q15, Option.map_eq_some_iff, reduceCtorEq] at h
    all_goals (obtain ⟨s, h1, rfl⟩ := h; simp [qj5 h1])
theorem q8c : ∀ {sh1 sh2 : List (Option IntKind)} {us : List Value}, q15 us = some (sh1 ++ sh2) → q15 (us.take sh1.length) = some sh1 ∧ q15 (us.drop sh1.length) = some sh2
  | [], sh2, us, h => by simpa [q15] using h
  | a :: sh1, sh2, [], h => by simp [q15] at h
  | a :: sh1, sh2, u :: us, h => by
    cases u <;> simp only [q15, Option.map_eq_some_iff, reduceCtorEq, List.cons_append, List.cons.injEq] at h
    all_goals
      obtain ⟨s, h1, rfl, rfl⟩ := h; have := q8c h1; simp [q15, this.1, this.2]
theorem qw9 : ∀ {sh : List (Option IntKind)} {us vs : List Value}, q15 (us.take sh.length) = some sh → q15 (vs.take sh.length) = some sh → eqV us vs = (eqV (us.take sh.length) (vs.take sh.length) && eqV (us.drop sh.length) (vs.drop sh.length))
  | [], us, vs, _, _ => by simp [eqV]
  | a :: sh, [], vs, h, _ => by simp [q15] at h
  | a :: sh, u :: us, [], _, h => by simp [q15] at h
  | a :: sh, u :: us, v :: vs, h, h' => by
    simp only [List.length_cons, List.take_succ_cons] at h h'
    cases u <;> simp only [q15, Option.map_eq_some_iff, reduceCtorEq, List.cons.injEq] at h
    all_goals
      obtain ⟨s, h1, rfl, rfl⟩ := h
      cases v <;> simp only [q15, Option.map_eq_some_iff, reduceCtorEq, List.cons.injEq, Option.some.injEq] at h'
      all_goals
        obtain ⟨s', h2, h3⟩ := h'
        first
          | (exfalso; simp at h3; done)
          | (have h4 := h3.2
             subst h4; have := qw9 h1 h2; simp only [eqV, List.length_cons, List.take_succ_cons, List.drop_succ_cons, this, Bool.and_assoc])
theorem qw6 {P : Program} {m : Nat} {t : TypeId} {sh} (h : q7j P m t = some sh) : q0j P t = true := by
  cases m with
  | zero => simp [q7j] at h
  | succ m =>
    unfold q7j at h
    split at h
    · assumption
    · cases h
theorem q9p {P : Program} {w : World} {m : Nat} {t : TypeId} {sh} (h : q7j P m t = some sh) (hz : szT P t = sh.length) (us : List Value) (off : Nat) (hs : q15 ((us.drop off).take sh.length) = some sh) :
    ∃ x, (part t ⟨us⟩ off).run P w = .ok x w ∧ VT P t ((us.drop off).take sh.length) x := by
  have hh := qw6 h
  cases m with
  | zero => simp [q7j] at h
  | succ m =>
    unfold q7j at h; rw [if_pos hh] at h; have one : ∀ k, sh = [k] → ∃ u, (us.drop off).take sh.length = [u] ∧ us[off]? = some u := by
      rintro k rfl; have hl := qj5 hs
      cases hd : us.drop off with
      | nil => rw [hd] at hl; simp at hl
      | cons u r =>
        refine ⟨u, by simp, ?_⟩; have := List.getElem?_drop (xs := us) (i := off) (j := 0); rw [hd] at this
        simpa using this.symm
    split at h
    · rename_i hu
      simp only [Option.some.injEq] at h; obtain ⟨u, h1, h2⟩ := one none h.symm; refine ⟨u, ?_, by rw [h1]; simp [VT, hu]⟩; unfold part; simp [q79 hh, q0u, hu, h2]
    · rename_i k hu
      simp only [Option.some.injEq] at h; obtain ⟨u, h1, h2⟩ := one (some k) h.symm; refine ⟨u, ?_, by rw [h1]; simp [VT, hu]⟩; unfold part; simp [q79 hh, q0u, hu, h2]
    · rename_i fs hu
      refine ⟨.agg ⟨(us.drop off).take sh.length⟩, ?_, by simp [VT, hu]⟩; unfold part; simp [q79 hh, q0u, hu, run_sizeOf hh, hz]
    · rename_i n e hu
      refine ⟨.agg ⟨(us.drop off).take sh.length⟩, ?_, by simp [VT, hu]⟩; unfold part; simp [q79 hh, q0u, hu, run_sizeOf hh, hz]
    · cases h
theorem qv1 {P : Program} {w : World} {m d : Nat}
    (IH : ∀ t sh, q7j P m t = some sh → ∀ us vs x y, VT P t us x → VT P t vs y → q15 us = some sh → q15 vs = some sh → (Op.equalIn (d + m) t x y).run P w = .ok (eqV us vs) w) :
    ∀ (fs : List Field) (o : Nat) (sh), z15 (q7j P m) (szT P) fs o = some sh → ∀ us vs : List Value, q15 (us.drop o) = some sh → q15 (vs.drop o) = some sh →
      (Op.eqFields (d + m) ⟨us⟩ ⟨vs⟩ fs).run P w = .ok (eqV (us.drop o) (vs.drop o)) w
  | [], o, sh, h, us, vs, h1, h2 => by
    simp only [z15, Option.some.injEq] at h; subst h; have e1 := qj5 h1; have e2 : us.drop o = [] := List.eq_nil_of_length_eq_zero (by simpa using e1); rw [e2]; simp [Op.eqFields, eqV]
  | f :: fs, o, sh, h, us, vs, h1, h2 => by
    unfold z15 at h
    split at h
    · cases h
    · rename_i hc
      split at h
      · rename_i s hs
        split at h
        · rename_i hz
          simp only [Option.map_eq_some_iff] at h; obtain ⟨r, hr, rfl⟩ := h; have hn : f.name ≠ "_" := fun hx => hc (.inl hx); have ho : f.offset = o := Classical.byContradiction fun hx => hc (.inr hx); obtain ⟨a1, a2⟩ := q8c h1; obtain ⟨b1, b2⟩ := q8c h2; obtain ⟨x, p1, v1⟩ := q9p (w := w) hs hz us o a1; obtain ⟨y, p2, v2⟩ := q9p (w := w) hs hz vs o b1; have p3 := IH _ _ hs _ _ _ _ v1 v2 a1 b1; rw [List.drop_drop] at a2 b2; have p4 := qv1 IH fs (o + s.length) r hr us vs a2 b2; rw [qw9 a1 b1, List.drop_drop, List.drop_drop]; simp only [Op.eqFields, hn, ne_eq, not_false_eq_true, if_true, Sem.run_bind, ho, p1, p2, p3, Result.andThen_ok]
          cases eqV ((us.drop o).take s.length) ((vs.drop o).take s.length)
          · simp
          · simpa using p4
        · cases h
      · cases h
theorem qx0 {P : Program} {w : World} {m d : Nat} {e : TypeId} {s : List (Option IntKind)} (hs : q7j P m e = some s) (hz : szT P e = s.length)
    (IH : ∀ us vs x y, VT P e us x → VT P e vs y → q15 us = some s → q15 vs = some s → (Op.equalIn (d + m) e x y).run P w = .ok (eqV us vs) w) (us vs : List Value) :
    ∀ (n o : Nat), q15 (us.drop (o * s.length)) = some (List.replicate n s).flatten → q15 (vs.drop (o * s.length)) = some (List.replicate n s).flatten →
      (Op.eqItems (d + m) e s.length ⟨us⟩ ⟨vs⟩ (List.range' o n)).run P w = .ok (eqV (us.drop (o * s.length)) (vs.drop (o * s.length))) w
  | 0, o, h1, h2 => by
    have e1 := qj5 h1; have e2 : us.drop (o * s.length) = [] := List.eq_nil_of_length_eq_zero (by simpa using e1); rw [e2]; simp [Op.eqItems, eqV]
  | n + 1, o, h1, h2 => by
    rw [List.replicate_succ, List.flatten_cons] at h1 h2; obtain ⟨a1, a2⟩ := q8c h1; obtain ⟨b1, b2⟩ := q8c h2; obtain ⟨x, p1, v1⟩ := q9p (w := w) hs hz us (o * s.length) a1; obtain ⟨y, p2, v2⟩ := q9p (w := w) hs hz vs (o * s.length) b1; have p3 := IH _ _ _ _ v1 v2 a1 b1; have eo : o * s.length + s.length = (o + 1) * s.length := by rw [Nat.add_mul, Nat.one_mul]
    rw [List.drop_drop, eo] at a2 b2; have p4 := qx0 hs hz IH us vs n (o + 1) a2 b2; rw [qw9 a1 b1, List.drop_drop, List.drop_drop, eo]; simp only [List.range'_succ, Op.eqItems, Sem.run_bind, p1, p2, p3, Result.andThen_ok]
    cases eqV ((us.drop (o * s.length)).take s.length) ((vs.drop (o * s.length)).take s.length)
    · simp
    · simpa using p4
theorem qn3 {P : Program} {w : World} (d : Nat) : ∀ (m : Nat) (t : TypeId) (sh), q7j P m t = some sh → ∀ us vs x y, VT P t us x → VT P t vs y → q15 us = some sh → q15 vs = some sh →
    (Op.equalIn (d + m) t x y).run P w = .ok (eqV us vs) w
  | 0, t, sh, h, _, _, _, _, _, _, _, _ => by simp [q7j] at h
  | m + 1, t, sh, h, us, vs, x, y, hx, hy, h1, h2 => by
    have hh := qw6 h; unfold q7j at h; rw [if_pos hh] at h
    split at h
    · rename_i hu
      simp only [Option.some.injEq] at h; subst h; simp only [VT, hu] at hx hy; subst hx; subst hy
      cases x <;> simp [q15] at h1
      cases y <;> simp [q15] at h2
      rw [show d + (m + 1) = d + m + 1 from rfl, run_equalIn_bool w (d + m) t _ _ hu]; simp [eqV]
    · rename_i k hu
      simp only [Option.some.injEq] at h; subst h; simp only [VT, hu] at hx hy; subst hx; subst hy
      cases x <;> simp [q15] at h1
      cases y <;> simp [q15] at h2
      subst h1; subst h2; rw [show d + (m + 1) = d + m + 1 from rfl, run_equalIn_int w (d + m) t _ _ _ _ hu]; simp [eqV]
    · rename_i fs hu
      split at h
      · cases h
      · rename_i hst
        simp only [VT, hu] at hx hy; subst hx; subst hy; have hfs : P.fieldsOf t = fs := by simp [Program.fieldsOf, hu]
        rw [show d + (m + 1) = d + m + 1 from rfl, run_equalIn_struct w (d + m) t _ _ (by rw [hfs]; exact hu) (by simpa using hst), hfs]; have := qv1 (w := w) (d := d) (fun t sh h => qn3 d m t sh h) fs.toList 0 sh h us vs (by simpa using h1) (by simpa using h2)
        simpa using this
    · rename_i n e hu
      split at h
      · rename_i s hs
        split at h
        · rename_i hz
          simp only [Option.some.injEq] at h; subst h; simp only [VT, hu] at hx hy; subst hx; subst hy; obtain ⟨i, _, hi, _, _⟩ := qh4 (qw6 hs); rw [show d + (m + 1) = d + m + 1 from rfl, run_equalIn_array w (d + m) _ _ hu hi, hz.2, List.range_eq_range']; have := qx0 (w := w) (d := d) hs hz.1 (fun us vs x y => qn3 d m e s hs us vs x y) us vs n 0 (by simpa using h1) (by simpa using h2)
          simpa using this
        · cases h
      · cases h
    · cases h
theorem qx7 {P : Program} {t : TypeId} {sh} (hg : P.eqGuardType P.depth t = false) (ha : q0u P t = true) (h : q7j P 9 t = some sh) : EqT P t sh := by
  refine ⟨hg, fun us vs h1 h2 w => ?_⟩; have hu : ∀ us, VT P t us (.agg ⟨us⟩) := by
    intro us; unfold VT; unfold q0u at ha
    split at ha <;> rename_i hu <;> first | (rw [hu]) | cases ha
  exact qn3 9991 9 t sh h us vs _ _ (hu _) (hu _) h1 h2
end Go.Proofs.YtbcbcdbkdljjlaaGreat

namespace Go.Proofs.YtbcbcdbkdljjlaaGreat
open Go Go.RowKit
theorem z4k (b : Nat) : ¬ own (fun _ => none) [] (fun _ => False) b := by
  rintro (h | ⟨p, hp, _⟩)
  · exact h
  · cases hp
theorem z8i {P : Program} {f : FuncId} {args : List AV} {v : Value} (hb : q02 P f = true) (h : PureS P f args 0 (.v v)) (w : World) (vs : List Value)
    (ha : p8 w (fun _ => none) 0 (own (fun _ => none) [] (fun _ => False)) args vs) : Calls P f ⟨vs⟩ w fun e w' => e = .returned v ∧ Below w.heap.size w w' := by
  refine ((h w (fun _ => none) (fun _ => False) vs (fun b hb => hb.elim) ha ⟨(fun p hp => by cases hp), (fun p hp => by cases hp), by simp, (fun p hp => by cases hp), (fun p hp => by cases hp)⟩).1 hb).mono ?_; rintro e w' ⟨u, r, hp', nx', β', rfl, ⟨rfl, rfl, rfl⟩, hr, hh, hext⟩; simp only [rep] at hr; subst hr; exact ⟨rfl, hext.os, hext.tape, hext.output.1, hext.size, fun k hk => hext.keep k hk (by rintro ⟨q, hq, _⟩; cases hq)⟩
end Go.Proofs.YtbcbcdbkdljjlaaGreat

namespace Go.Proofs.YtbcbcdbkdljjlaaGreat
open Go Go.RowKit
theorem qd5 (P : Program) (t : TypeId) : P.cellsOf t = szT P t := rfl
section
variable {H : Type} {enc : TypeId × Value → H} {P : Program} {w : World} {base : Nat} {spare : Nat → Bool} {held : Bool}
end
end Go.Proofs.YtbcbcdbkdljjlaaGreat

namespace Go.Proofs.YtbcbcdbkdljjlaaGreat
open Go Go.RowKit Go.WideShapes
inductive CT where
  | int (k : IntKind)
  | bool
  | str
  | sl (row : List CT)
mutual
def qn4 : CT → AV → Prop
  | .int k, a => ∃ n, a = .v (.int k n) ∧ (Lit.int k n).wf = true
  | .bool, a => ∃ b, a = .v (.bool b)
  | .str, a => ∃ s : ByteArray, a = .v (.string s) ∧ s.size ≤ maxLen
  | .sl row, a => ∃ rows, a = .sl row.length rows ∧ rows.length ≤ maxLen ∧ ∀ r ∈ rows, q1y row r
def q1y : List CT → List AV → Prop
  | [], avs => avs = []
  | c :: cs, avs => ∃ a r, avs = a :: r ∧ qn4 c a ∧ q1y cs r
end
def z5n (g : TypeId → Option (List CT)) (c : TypeId → Nat) : List Field → Nat → Option (List CT)
  | [], _ => some []
  | f :: r, o => if f.offset ≠ o then none else match g f.type with
    | some sh => if c f.type = sh.length then (z5n g c r (o + sh.length)).map (sh ++ ·) else none
    | none => none
def qb9 (P : Program) : Nat → TypeId → Option (List CT)
  | 0, _ => none
  | m + 1, t => match P.underlying t with
    | some .bool => some [.bool]
    | some (.int k) => some [.int k]
    | some .string => some [.str]
    | some (.slice e) => match qb9 P m e with
      | some row => if szT P e = row.length ∧ 0 < row.length then some [.sl row] else none
      | none => none
    | some (.struct fs) => z5n (qb9 P m) (szT P) fs.toList 0
    | some (.array n e) => match qb9 P m e with
      | some row => if szT P e = row.length then some (List.replicate n row).flatten else none
      | none => none
    | _ => none
def qb0 (w : World) (β : Ghost) (ow : Nat → Prop) (cts : List CT) (us : List Value) : Prop := ∃ avs, q1y cts avs ∧ p8 w β 0 ow avs us ∧ ∀ u ∈ us, u.oneCell' = true
section
variable {w : World} {β : Ghost} {ow : Nat → Prop}
theorem qv8 : ∀ {cts : List CT} {avs : List AV}, q1y cts avs → avs.length = cts.length
  | [], avs, h => by simp only [q1y] at h; subst h; rfl
  | c :: cs, avs, h => by
    simp only [q1y] at h; obtain ⟨a, r, rfl, _, h2⟩ := h; simp [qv8 h2]
theorem z2n : ∀ {c1 c2 : List CT} {a1 a2 : List AV}, q1y c1 a1 → q1y c2 a2 → q1y (c1 ++ c2) (a1 ++ a2)
  | [], c2, a1, a2, h, h2 => by simp only [q1y] at h; subst h; simpa using h2
  | c :: cs, c2, a1, a2, h, h2 => by
    simp only [q1y] at h; obtain ⟨a, r, rfl, h3, h4⟩ := h; simp only [List.cons_append, q1y]; exact ⟨a, r ++ a2, rfl, h3, z2n h4 h2⟩
theorem z04 {c1 c2 : List CT} {u1 u2 : List Value} (h1 : qb0 w β ow c1 u1) (h2 : qb0 w β ow c2 u2) : qb0 w β ow (c1 ++ c2) (u1 ++ u2) := by
  obtain ⟨a1, p1, q1, r1⟩ := h1; obtain ⟨a2, p2, q2, r2⟩ := h2; exact ⟨a1 ++ a2, z2n p1 p2, q3m q1 q2, fun u hu => (List.mem_append.1 hu).elim (r1 u) (r2 u)⟩
theorem qr5 {b : Nat} : ∀ (as : List AV) (us : List Value) (o : Nat), (∀ j (hj : j < us.length), w.cell? ⟨b, o + j, none⟩ = some us[j]) → (∀ u ∈ us, u.oneCell' = true) → p8 w β 0 ow as us → q3e w β ow b as o
  | [], _, _, _, _, _ => by simp [q3e]
  | a :: as, [], _, _, _, h => by simp only [p8] at h
  | a :: as, u :: us, o, hc, h1, h => by
    simp only [p8] at h; simp only [q3e]; refine ⟨⟨u, by have := hc 0 (by simp); simpa only [Nat.add_zero, List.getElem_cons_zero] using this, h1 u (by simp), h.1⟩, qr5 as us (o + 1) (fun j hj => ?_) (fun v hv => h1 v (by simp [hv])) h.2⟩; have := hc (j + 1) (by simp; omega); rw [show o + 1 + j = o + (j + 1) by omega, this]; simp
theorem z0r {b sz : Nat} : ∀ (L : List (List AV)) (o : Nat), (∀ i (hi : i < L.length), L[i].length = sz ∧ q3e w β ow b L[i] (o + i * sz)) → q0w w β ow sz b L o
  | [], o, _ => by simp [q0w]
  | r :: rs, o, h => by
    have h0 := h 0 (by simp); simp only [List.getElem_cons_zero, Nat.zero_mul, Nat.add_zero] at h0; simp only [q0w]; refine ⟨h0.1, h0.2, z0r rs (o + sz) (fun i hi => ?_)⟩; have := h (i + 1) (by simp; omega); simp only [List.getElem_cons_succ] at this; refine ⟨this.1, ?_⟩; rw [show o + sz + i * sz = o + (i + 1) * sz by rw [Nat.add_mul]; omega]; exact this.2
variable {H : Type} {enc : TypeId × Value → H} {P : Program} {base : Nat} {spare : Nat → Bool} {held : Bool}
theorem z2j {m n : Nat} (IH : ∀ t cts, qb9 P m t = some cts → szT P t = cts.length → ∀ fuel cs x, DataW.trod enc P w base spare held fuel t cs = some x → qb0 w β ow cts cs) (cs : List Value) :
    ∀ (fs : List Field) (o : Nat) (sh), z5n (qb9 P m) (szT P) fs o = some sh → (∀ f ∈ fs, ∃ y, DataW.trod enc P w base spare held n f.type ((cs.drop f.offset).take (P.cellsOf f.type)) = some y) →
      qb0 w β ow sh ((cs.drop o).take sh.length)
  | [], o, sh, h, _ => by
    simp only [z5n, Option.some.injEq] at h; subst h; exact ⟨[], by simp [q1y], by simp [p8], by simp⟩
  | f :: fs, o, sh, h, hall => by
    unfold z5n at h
    split at h
    · cases h
    · rename_i hc
      split at h
      · rename_i s hs
        split at h
        · rename_i hz
          simp only [Option.map_eq_some_iff] at h; obtain ⟨r, hr, rfl⟩ := h; have ho : f.offset = o := Classical.byContradiction hc; obtain ⟨y, hy⟩ := hall f (by simp); rw [ho, qd5, hz] at hy; have h1 := IH _ _ hs hz _ _ _ hy; have h2 := z2j IH cs fs (o + s.length) r hr (fun g hg => hall g (by simp [hg])); have he : (cs.drop o).take (s ++ r).length = (cs.drop o).take s.length ++ (cs.drop (o + s.length)).take r.length := by
            rw [List.length_append, List.take_add, List.drop_drop]
          rw [he]; exact z04 h1 h2
        · cases h
      · cases h
theorem z4a {e : TypeId} {row : List CT} (cs : List Value) (hz : szT P e = row.length) : ∀ (n o : Nat), (∀ i, i < n → qb0 w β ow row ((cs.drop (o + i * row.length)).take row.length)) →
    qb0 w β ow (List.replicate n row).flatten ((cs.drop o).take (List.replicate n row).flatten.length)
  | 0, o, _ => ⟨[], by simp [q1y], by simp [p8], by simp⟩
  | n + 1, o, h => by
    have h0 := h 0 (by omega); simp only [Nat.zero_mul, Nat.add_zero] at h0; have h1 := z4a cs hz n (o + row.length) (fun i hi => by
      have := h (i + 1) (by omega); rw [show o + row.length + i * row.length = o + (i + 1) * row.length by rw [Nat.add_mul]; omega]; exact this)
    rw [List.replicate_succ, List.flatten_cons, List.length_append, List.take_add, List.drop_drop]; exact z04 h0 h1
theorem qj3 (how : ∀ b, ¬ ow b) : ∀ (m : Nat) (t : TypeId) (cts), qb9 P m t = some cts → szT P t = cts.length → ∀ fuel cs x, DataW.trod enc P w base spare held fuel t cs = some x → qb0 w β ow cts cs
  | 0, t, cts, h, _, _, _, _, _ => by simp [qb9] at h
  | m + 1, t, cts, h, hz, fuel, cs, x, hx => by
    unfold qb9 at h
    split at h
    · rename_i hu
      simp only [Option.some.injEq] at h; subst h; obtain ⟨b, rfl, _⟩ := DataW.trod_bool hu hx; exact ⟨[.v (.bool b)], by simp [q1y, qn4], by simp [p8, rep], by simp [Value.oneCell']⟩
    · rename_i k hu
      simp only [Option.some.injEq] at h; subst h; obtain ⟨n, rfl, _, hw⟩ := DataW.trod_int hu hx; exact ⟨[.v (.int k n)], by simp [q1y, qn4, hw], by simp [p8, rep], by simp [Value.oneCell']⟩
    · rename_i hu
      simp only [Option.some.injEq] at h; subst h; obtain ⟨s, rfl, _, hw⟩ := DataW.trod_string hu hx; exact ⟨[.v (.string s)], by simp [q1y, qn4, hw], by simp [p8, rep], by simp [Value.oneCell']⟩
    · rename_i e hu
      split at h
      · rename_i row hrow
        split at h
        · rename_i hzr
          obtain ⟨hzr, hpos⟩ := hzr; simp only [Option.some.injEq] at h; subst h; rcases Go.Deep.open_slice hu hx with ⟨rfl, _⟩ | ⟨a, len, cap, M, n, D, Pl, rfl, _, hl, hm, hM, _, hi⟩
          · exact ⟨[.sl row.length []], by simp [q1y, qn4], by simp [p8, rep], by simp [Value.oneCell']⟩
          · have hlM : len ≤ M := by rw [hM]; split <;> omega
            rw [qd5, hzr] at hi; obtain ⟨f, hf⟩ := Go.Deep.choose_lt (α := List AV × List Value) (n := len) (p := fun i q => w.cells? base (a.add (i * row.length)) row.length = some q.2 ∧ q1y row q.1 ∧ p8 w β 0 ow q.1 q.2 ∧ ∀ u ∈ q.2, u.oneCell' = true) (fun i hlt => by
              obtain ⟨cs', hc, htr⟩ := hi i (by omega); obtain ⟨avs, k1, k2, k3⟩ := qj3 how m e row hrow hzr _ _ _ htr; exact ⟨(avs, cs'), hc, k1, k2, k3⟩)
            have hcell : ∀ i, i < len → (f i).2.length = row.length ∧ ∀ j, j < row.length → w.cell? (a.add (i * row.length + j)) = (f i).2[j]? := fun i hlt => by
              obtain ⟨_, hlen, hat⟩ := World.cells?_some (hf i hlt).1; refine ⟨by rw [q1a (hf i hlt).2.2.1 |>.symm, qv8 (hf i hlt).2.1], fun j hj => ?_⟩; rw [← Go.Deep.add_add]; exact hat j hj
            refine ⟨[.sl row.length ((List.range len).map fun i => (f i).1)], ?_, ?_, by simp [Value.oneCell']⟩
            · simp only [q1y, qn4]
              refine ⟨_, _, rfl, ⟨_, rfl, by simp; omega, fun r hr => ?_⟩, rfl⟩; obtain ⟨i, hir, rfl⟩ := List.mem_map.1 hr; exact (hf i (by simpa using hir)).2.1
            · simp only [p8, rep]
              refine ⟨?_, trivial⟩; rcases Nat.eq_zero_or_pos len with h0 | h0
              · subst h0
                exact .inl ⟨by simp, _, _, rfl⟩
              · right
                have hcell0 := (hcell 0 h0).2 0 hpos; have hlen0 := (hcell 0 h0).1; rw [List.getElem?_eq_getElem (by omega)] at hcell0; obtain ⟨b, o, spot⟩ := a; have hsp : spot = none := by simpa [Addr.add] using World.cell?_spot hcell0
                subst hsp; have hadd : ∀ i, (⟨b, o, none⟩ : Addr).add i = ⟨b, o + i, none⟩ := fun i => by
                  unfold Addr.add; split
                  · rename_i h; subst h; rfl
                  · rfl
                refine ⟨b, o, cap, by simp, by simpa using hl, how b, ?_, z0r _ _ (fun i hi' => ?_)⟩
                · rw [hadd] at hcell0
                  unfold World.cell? at hcell0
                  split at hcell0
                  · rename_i heq
                    exact (Array.getElem?_eq_some_iff.1 heq).1
                  · cases hcell0
                · have hlt : i < len := by simpa using hi'
                  have h1 := hf i hlt; have h2 := hcell i hlt; simp only [List.getElem_map, List.getElem_range]; refine ⟨qv8 h1.2.1, qr5 _ _ _ (fun j hj => ?_) h1.2.2.2 h1.2.2.1⟩; have := h2.2 j (by omega); rw [hadd, List.getElem?_eq_getElem hj] at this; rw [show o + i * row.length + j = o + (i * row.length + j) by omega]; exact this
        · cases h
      · cases h
    · rename_i fs hu
      obtain ⟨ys, n, _, _, hl, hlen, hf⟩ := DataW.trod_struct hu hx; have := z2j (enc := enc) (w := w) (base := base) (spare := spare) (held := held) (n := n) (fun t sh h hz fuel cs x => qj3 how m t sh h hz fuel cs x) cs fs.toList 0 cts h (fun f hfm => by
        obtain ⟨j, hj, hjf⟩ := List.getElem_of_mem hfm; have hjs : fs[j]? = some f := by
          rw [← Array.getElem?_toList, List.getElem?_eq_getElem hj, hjf]
        have h1 := hf j f hjs; have hjy : j < ys.length := by
          have : j < fs.size := (Array.getElem?_eq_some_iff.1 hjs).1; omega
        rw [List.getElem?_eq_getElem hjy] at h1; exact ⟨_, h1⟩)
      have hcl : cs.length = cts.length := by rw [hl, qd5, hz]
      rw [List.drop_zero, List.take_of_length_le (by omega)] at this; exact this
    · rename_i n e hu
      split at h
      · rename_i row hrow
        split at h
        · rename_i hzr
          simp only [Option.some.injEq] at h; subst h; obtain ⟨ys, fu, _, _, hl, hlen, hf⟩ := DataW.trod_array hu hx; rw [qd5, hzr] at hf; have := z4a (w := w) (β := β) (ow := ow) (P := P) (e := e) (row := row) cs hzr n 0 (fun i hi => by
            have h1 := hf i hi; rw [List.getElem?_eq_getElem (by omega)] at h1; rw [Nat.zero_add]; exact qj3 how m e row hrow hzr _ _ _ h1)
          have hcl : cs.length = (List.replicate n row).flatten.length := by rw [hl, qd5, hz]
          rw [List.drop_zero, List.take_of_length_le (by omega)] at this; exact this
        · cases h
      · cases h
    · cases h
end
class Dat (α : Type) extends Row α where
  ct : List CT
  ok : α → Prop
  len : ct.length = sz
  of : ∀ avs, q1y ct avs → ∃ x : α, avs = row x ∧ ok x
def inI (k : IntKind) (n : Int) : Prop := (Lit.int k n).wf = true
theorem zk2 {n : Int} (h : inI .u8 n) : 0 ≤ n ∧ n < 256 := by
  simp [inI, Lit.wf, IntKind.min, IntKind.max, IntKind.signed, IntKind.bits] at h; omega
instance : Dat Int where
  ct := [.int .i64]
  ok n := inI .i64 n
  len := rfl
  of avs h := by
    simp only [q1y, qn4] at h; obtain ⟨_, _, rfl, ⟨n, rfl, hw⟩, rfl⟩ := h; exact ⟨n, rfl, hw⟩
instance : Dat Bool where
  ct := [.bool]
  ok _ := True
  len := rfl
  of avs h := by
    simp only [q1y, qn4] at h; obtain ⟨_, _, rfl, ⟨b, rfl⟩, rfl⟩ := h; exact ⟨b, rfl, trivial⟩
instance : Dat UInt8 where
  ct := [.int .u8]
  ok _ := True
  len := rfl
  of avs h := by
    simp only [q1y, qn4] at h; obtain ⟨_, _, rfl, ⟨n, rfl, hw⟩, rfl⟩ := h; exact ⟨toB n, by rw [qv7, ze9 n (zk2 hw)], trivial⟩
theorem z5j {α : Type} [Dat α] : ∀ (rows : List (List AV)), (∀ r ∈ rows, q1y (Dat.ct α) r) → ∃ l : List α, rows = enc l ∧ ∀ x ∈ l, Dat.ok x
  | [], _ => ⟨[], rfl, by simp⟩
  | r :: rs, h => by
    obtain ⟨x, hx, ho⟩ := Dat.of r (h r (by simp)); obtain ⟨l, hl, hol⟩ := z5j rs (fun r hr => h r (by simp [hr])); exact ⟨x :: l, by rw [hx, hl]; rfl, by simp; exact ⟨ho, hol⟩⟩
instance {α : Type} [Dat α] : Dat (List α) where
  ct := [.sl (Dat.ct α)]
  ok l := l.length ≤ maxLen ∧ ∀ x ∈ l, Dat.ok x
  len := rfl
  of avs h := by
    simp only [q1y, qn4] at h; obtain ⟨_, _, rfl, ⟨rows, rfl, hl, hr⟩, rfl⟩ := h; obtain ⟨l, rfl, ho⟩ := z5j (α := α) rows hr; exact ⟨l, by rw [q8d, Dat.len], by simpa [q1f] using hl, ho⟩
def z05 (g : Bool) (avs : List AV) : AV := if g = true then .agg avs else oneOf avs
section
variable {H : Type} {enc : TypeId × Value → H} {P : Program} {w : World} {base b0 : Nat} {spare : Nat → Bool} {held : Bool} {β : Ghost} {ow : Nat → Prop} {r : Reach} {t : TypeId} {v : Value} {d : DataW H} {ps : List MemPlace}
theorem z7n (how : ∀ b, ¬ ow b) {cts : List CT} (hf : qb9 P 12 t = some cts) (hz : szT P t = cts.length) (ho : Value.okWide P w r b0 t v) (h : DataW.Trod enc P w base spare held t v d ps) :
    ∃ avs, q1y cts avs ∧ rep w β 0 ow (z05 (q0u P t) avs) v := by
  obtain ⟨fuel, h⟩ := h; obtain ⟨avs, h1, h2, h3⟩ := qj3 (β := β) how 12 t cts hf hz fuel _ _ h; refine ⟨avs, h1, ?_⟩; have one : v.cells.toList = [v] → q0u P t = false → rep w β 0 ow (z05 (q0u P t) avs) v := fun hv ha => by
    rw [hv] at h2; rw [ha]
    match avs, h2 with
    | [a], h2 => simp only [p8] at h2; simpa [z05, oneOf] using h2.1
    | [], h2 => simp only [p8] at h2
    | a :: b :: q, h2 => simp only [p8] at h2; exact h2.2.elim
  unfold qb9 at hf
  split at hf
  · rename_i hu
    obtain ⟨b, rfl⟩ := okWide_bool hu ho; exact one rfl (by simp [q0u, hu])
  · rename_i k hu
    obtain ⟨b, rfl⟩ := okWide_int hu ho; exact one rfl (by simp [q0u, hu])
  · rename_i hu
    obtain ⟨b, rfl⟩ := okWide_string hu ho; exact one rfl (by simp [q0u, hu])
  · rename_i e hu
    obtain ⟨a, len, cap, rfl⟩ := okWide_slice hu ho; exact one rfl (by simp [q0u, hu])
  · rename_i fs hu
    obtain ⟨cs, rfl, _⟩ := okWide_struct hu ho; rw [show q0u P t = true by simp [q0u, hu]]; simp only [z05, if_true, rep]; exact ⟨cs.toList, by simp, h2⟩
  · rename_i n e hu
    have ho' := ho; unfold Value.okWide at ho'; rw [hu] at ho'; obtain ⟨cs, rfl, _⟩ := ho'; rw [show q0u P t = true by simp [q0u, hu]]; simp only [z05, if_true, rep]; exact ⟨cs.toList, by simp, h2⟩
  · cases hf
theorem z4m {α : Type} [Dat α] (how : ∀ b, ¬ ow b) (hf : qb9 P 12 t = some (Dat.ct α)) (hz : szT P t = (Dat.ct α).length) (ho : Value.okWide P w r b0 t v) (h : DataW.Trod enc P w base spare held t v d ps) :
    ∃ x : α, Dat.ok x ∧ rep w β 0 ow (z05 (q0u P t) (Row.row x)) v := by
  obtain ⟨avs, h1, h2⟩ := z7n (β := β) how hf hz ho h; obtain ⟨x, rfl, hx⟩ := Dat.of avs h1; exact ⟨x, hx, h2⟩
end
end Go.Proofs.YtbcbcdbkdljjlaaGreat
