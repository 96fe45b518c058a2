/-
  Rows of typed things, calls of functions with contracts, regions whose order is open, what arguments are. No condition beyond those that each theorem names.
-/
import Derived.Test.YteibkihbdgphnaaGreatLibB
import Derived.DeepKeys
import Derived.Below
import Derived.Deep.Slices
import Derived.Deep.Fields
import Derived.OpenShut
import Derived.WideShapes
set_option linter.unusedSimpArgs false
set_option linter.unusedVariables false
set_option linter.unusedSectionVars false
open Array renaming getElem?_eq_getElem -> Xa, getD_eq_getD_getElem? -> Xc, getElem?_eq_some_iff -> Xf, any_eq_true' -> Xm, mem_toList_iff -> Xq, getElem?_replicate -> Xy
open Option renaming some.injEq -> Xb, map_eq_some_iff -> Xe, getD_some -> Xk
open Bool renaming and_eq_true -> Xd, or_eq_true -> Xi
open List renaming replicate -> Xg, drop_drop -> Xh, range -> Xj, getElem?_eq_getElem -> Xn, mem_range -> Xo, all_eq_true -> Xp, eq_nil_of_length_eq_zero -> Xt, take_succ_cons -> Xu, length_append -> Xv, flatten_cons -> Xw, cons_append -> Xz, length_cons -> X0, getElem?_cons_zero -> X1, cons.injEq -> X3, drop_of_length_le -> X4, getElem_cons_zero -> X6, take_of_length_le -> X7, drop_zero -> X9, map_cons -> Ya, getD_cons_zero -> Yb, getD_cons_succ -> Yc, drop_succ_cons -> Yd, replicate_succ -> Ye, mem_cons_self -> Yf, append -> Yh
open Classical renaming byContradiction -> Xl
open Nat renaming zero_add -> Xr, add_zero -> Xs, lt_or_ge -> Xx, add_left_cancel_iff -> X2, le_refl -> X5, testBit_or -> X8, le_trans -> Yg, add_mul -> Yi
namespace Go.Proofs.YteibkihbdgphnaaGreat
section
open Go Go.RowKit
def j9l (P : Program) (x : Code) (Q : Exit -> St -> Prop) (s : St) : Prop := vc P x Q s
class Row (α : Type) where
 sz : Nat
 row : α -> List AV
def enc {α : Type} [Row α] (l : List α) : List (List AV) := l.map Row.row
theorem q11 {α : Type} [Row α] (l : List α) : (enc l).length = l.length := by simp [enc]
theorem q6j {α : Type} [Row α] : enc ([] : List α) = [] := rfl
theorem q5b {α : Type} [Row α] (a b : List α) : enc (a ++ b) = enc a ++ enc b := by simp [enc]
theorem z3m {α : Type} [Row α] (l : List α) (n : Nat) : (enc l).take n = enc (l.take n) := by simp [enc]
theorem z7k {α : Type} [Row α] (l : List α) (n : Nat) : (enc l).drop n = enc (l.drop n) := by simp [enc]
theorem qf4 {α : Type} [Row α] (l : List α) (n : Nat) (x : α) : (enc l).set n (Row.row x) = enc (l.set n x) := by simp [enc]
def idx {α : Type} (l : List α) (i : Int) : Option α := if 0 <= i then l[i.toNat]? else none
theorem q87 {α : Type} [Row α] {l : List α} {i : Int} {x : α} (h : idx l i = some x) : 0 <= i /\ i < l.length /\ q30 (enc l) i.toNat = Row.row x := by
 unfold idx at h
 split at h
 .
  rename_i h0
  obtain ⟨hlt, he⟩ := List.getElem?_eq_some_iff.1 h; refine ⟨h0, by omega, ?_⟩; simp [q30, enc, hlt, he]
 . cases h
instance : Row Int := ⟨1, fun n => [.v (.int .i64 n)]⟩
instance : Row Bool := ⟨1, fun b => [.v (.bool b)]⟩
instance : Row UInt8 := ⟨1, fun x => [.v (.int .u8 x.toNat)]⟩
instance {α : Type} [Row α] : Row (List α) := ⟨1, fun l => [.sl (Row.sz α) (enc l)]⟩
structure GStr where
 s : List UInt8
instance : Row GStr := ⟨1, fun x => [.v (.string ⟨⟨x.s⟩⟩)]⟩
theorem j6w (x : GStr) : Row.row x = [.v (.string ⟨⟨x.s⟩⟩)] := rfl
theorem j89 : Row.sz GStr = 1 := rfl
theorem z5i (n : Int) : Row.row n = [.v (.int .i64 n)] := rfl
theorem z2s (b : Bool) : Row.row b = [.v (.bool b)] := rfl
theorem z4b (x : UInt8) : Row.row x = [.v (.int .u8 x.toNat)] := rfl
theorem qa4 {α : Type} [Row α] (l : List α) : Row.row l = [.sl (Row.sz α) (enc l)] := rfl
theorem j1a : Row.sz Int = 1 := rfl
theorem zt1 : Row.sz Bool = 1 := rfl
theorem j5i : Row.sz UInt8 = 1 := rfl
theorem zt0 {α : Type} [Row α] : Row.sz (List α) = 1 := rfl
def toB (n : Int) : UInt8 := n.toNat.toUInt8
theorem j6j (n : Int) (h : 0 <= n /\ n < 256) : ((toB n).toNat : Int) = n := by
 unfold toB; rw [Nat.toUInt8_eq, UInt8.toNat_ofNat']; omega
def q03 {α : Type} (c : Prop) [Decidable c] (k : Option α) : Option α := if c then k else none
def q9 {α β : Type} (x : Option α) (k : α -> Option β) : Option β := x.bind k
theorem q0d {α : Type} {c : Prop} [Decidable c] {k : Option α} {r : α} (h : q03 c k = some r) : c /\ k = some r := by
 unfold q03 at h; split at h
 . exact ⟨by assumption, h⟩
 . cases h
theorem z8 {α β : Type} {x : Option α} {k : α -> Option β} {r : β} (h : q9 x k = some r) : ∃ a, x = some a /\ k a = some r := Option.bind_eq_some_iff.1 h
theorem q2k {α : Type} {b : Bool} {x y : Option α} {r : α} (h : (if b = true then x else y) = some r) (hb : b = true) : x = some r := by rw [if_pos hb] at h; exact h
theorem q2l {α : Type} {b : Bool} {x y : Option α} {r : α} (h : (if b = true then x else y) = some r) (hb : b = false) : y = some r := by rw [if_neg (by simp [hb])] at h; exact h
def rounds : Nat := 18446744073709551616
def q05 {σ R : Type} (body : (σ -> Option R) -> σ -> Option R) : Nat -> σ -> Option R
 | 0, _ => none
 | n + 1, s => body (q05 body n) s
theorem q6x {σ R : Type} {body : (σ -> Option R) -> σ -> Option R} {n : Nat} {s : σ} {r : R} (h : q05 body n s = some r) : ∃ m, n = m + 1 /\ body (q05 body m) s = some r := by
 cases n with
 | zero => cases h
 | succ m => exact ⟨m, rfl, h⟩
theorem q7w {P : Program} {s : St} {f : FuncId} {args args' : List AV} {K : St -> AV -> Prop} {r : AV} (h : PureS P f args' 0 r) (ha : args = args') (hf : q0f args' = true) (hk : K s r) : q8l P s f args K := by
 subst ha; exact z3o (hp1 := []) (hp2 := s.hp) (by simp) (h.up hf s.nx) (fun r' hp' nx' hq => by
  obtain ⟨rfl, rfl, rfl⟩ := hq; exact hk)
end
section
open Go Go.RowKit
def q3r (ops : Array Oper) : Nat -> Nat -> Nat -> Bool
 | 0, _, _ => false
 | n + 1, i, j => match ops[i]? with
  | some oi => oi.after.any fun e => Region.binds .any e && (e.on == j || q3r ops n e.on j)
  | none => false
def qv6 (ops : Array Oper) (k : Nat) : Bool := (Xj ops.size).all fun i => decide (i < k) || (Xj i).all fun j => q3r ops ops.size i j
theorem z1j {ops : Array Oper} {k : Nat} (h : qv6 ops k = true) : ∀ i, i < ops.size -> k <= i -> ∀ j, j < i -> q3r ops ops.size i j = true := by
 intro i hi hk j hj; simp only [qv6, Xp, Xo, Xi, decide_eq_true_eq] at h; rcases h i hi with h1 | h1
 . omega
 . exact h1 j hj
theorem q73 {ops : Array Oper} {listed : Nat -> Prop} (hcl : ∀ i oi, ops[i]? = some oi -> listed i -> ∀ e ∈ oi.after, Region.binds .any e = true -> listed e.on) :
  ∀ (n i j : Nat) (oi : Oper), ops[i]? = some oi -> (∀ e ∈ oi.after, Region.binds .any e = true -> listed e.on) -> q3r ops n i j = true -> listed j
 | 0, _, _, _, _, _, h => by simp [q3r] at h
 | n + 1, i, j, oi, hoi, hd, h => by
  unfold q3r at h; rw [hoi] at h; obtain ⟨e, he, hb⟩ := Xm.1 h; simp only [Xd, Xi, beq_iff_eq] at hb; rcases hb.2 with h1 | h1
  . rw [<- h1]; exact hd e he hb.1
  .
   cases ho : ops[e.on]? with
   | none => cases n <;> simp [q3r, ho] at h1
   | some oe => exact q73 hcl n e.on j oe ho (hcl e.on oe ho (hd e he hb.1)) h1
section
variable {P : Program} {C : Ctx P} {hp : Hp} {nx nb nt : Nat} {β : Ghost}
theorem zi5 {ops : Array Oper} {k : Nat} (hok : z2l ops = true) (ht : qv6 ops k = true) {Q : Exit -> Act -> World -> Prop} {K : St -> Prop} (hQ : ∀ a w, RK C K a w -> Q .normal a w) :
  ∀ (fuel m : Nat) (listed : Array Bool) (s : St) (a : Act) (w : World) (β : Ghost), k <= m -> m <= ops.size -> listed.size = ops.size -> (∀ i, i < ops.size -> (listed.getD i false = true ↔ i < m)) -> ops.size - m <= fuel ->
   qu9 s.nt ops.toList = true -> Rel C s a w β -> q9n P ops (ops.toList.drop m) s K -> wpAny P .any ops Q fuel listed a w := by
 obtain ⟨hlow, _⟩ := qv3 hok; have htl := z1j ht; intro fuel
 induction fuel with
 | zero =>
  intro m listed s a w β hk hm hsz hL hf hokn hR hv; have hme : m = ops.size := by omega
  subst hme; refine ⟨?_, ?_⟩
  .
   cases hr : Region.ready .any ops listed with
   | nil => rfl
   | cons i l =>
    have : i ∈ Region.ready .any ops listed := by rw [hr]; exact Yf
    obtain ⟨h1, o, ho, _⟩ := mem_ready.1 this; have hi := (Xf.1 ho).1; have hl := (hL i hi).2 hi; have hil : i < listed.size := by omega
    simp only [Xc, Xa hil, Xk] at hl h1; rw [hl] at h1; cases h1
  . rw [X4 (by simp)] at hv; exact hQ a w ⟨s, β, hR, hv⟩
 | succ fuel ih =>
  intro m listed s a w β hk hm hsz hL hf hokn hR hv; rcases Xx m ops.size with hlt | hge
  .
   have hom : ops[m]? = some ops[m] := Xa hlt; have hready : m ∈ Region.ready .any ops listed := mem_ready.2 ⟨by
    have hml : m < listed.size := by omega
    have := hL m hlt; simp only [Array.getD_eq_getD_getElem?, Array.getElem?_eq_getElem hml, Option.getD_some] at this ⊢
    cases hx : listed[m] with
    | false => rfl
    | true => rw [hx] at this; have := this.1 rfl; omega, ops[m], hom, fun e he hb => (hL e.on (Nat.lt_trans (hlow m _ hom e he hb) hlt)).2 (hlow m _ hom e he hb)⟩
   refine ⟨fun h0 => (by rw [h0] at hready; cases hready), fun i hi => ?_⟩; have him : i = m := by
    obtain ⟨h1, o, ho, he⟩ := mem_ready.1 hi; have his := (Xf.1 ho).1; have hil : i < listed.size := by omega
    have hLi : ¬ listed.getD i false = true := by
     simp only [Xc, Xa hil, Xk] at h1 ⊢; simp [h1]
    have hge : m <= i := Nat.le_of_not_lt fun hlt' => hLi ((hL i his).2 hlt'); rcases Xx m i with hgt | hle
    .
     have hcl : ∀ i oi, ops[i]? = some oi -> (i < ops.size /\ i < m) -> ∀ e ∈ oi.after, Region.binds .any e = true -> (e.on < ops.size /\ e.on < m) := fun i oi hoi hi e he hb => by
      have := hlow i oi hoi e he hb; omega
     have := q73 (listed := fun i => i < ops.size /\ i < m) hcl ops.size i m o ho (fun e he1 he2 => by
      have h1 := hlow i o ho e he1 he2; have h2 := he e he1 he2; exact ⟨by omega, (hL e.on (by omega)).1 h2⟩) (htl i his (by omega) m hgt)
     omega
    . omega
   subst him; have hdrop : ops.toList.drop i = ops[i] :: ops.toList.drop (i + 1) := by
    rw [List.drop_eq_getElem_cons (by simpa using hlt)]; simp
   rw [hdrop] at hv; have hd : dok s.nt ops[i].dst = true := Xp.1 hokn _ (Xq.2 (Array.getElem_mem hlt)); have h1 := zb5 (Q := Q) hR hd hv; have hnext : ∀ a' w', a'.tmps.size = a.tmps.size -> RK C (fun s' => q9n P ops (ops.toList.drop (i + 1)) s' K) a' w' -> wpAny P .any ops Q fuel (listed.setIfInBounds i true) a' w' := by
    rintro a' w' hsz' ⟨s', β', hR', hk'⟩; have hnt : s'.nt = s.nt := by rw [<- hR'.nt, hsz', hR.nt]
    refine ih (i + 1) _ s' a' w' β' (by omega) (by omega) (by simpa using hsz) (fun j hj => ?_) (by omega) (by rw [hnt]; exact hokn) hR' hk'; have hil : i < listed.size := by omega
    by_cases hji : i = j
    . subst hji; simp [hil]
    . have := hL j hj; simp only [Xc, Array.getElem?_setIfInBounds, if_neg hji] at this ⊢; rw [this]; omega
   unfold wpOp; rw [hom]; simp only; have hsize : ∀ v, (a.put ops[i].dst v).tmps.size = a.tmps.size := fun v => by
    cases hdd : ops[i].dst <;> simp [Act.put]
   split
   .
    rename_i hw
    rw [if_pos hw] at h1
    left
    unfold Oper.wp at h1 ⊢
    generalize (execOp a.eval ops[i]).run P w = res at h1 ⊢
    cases res with
    | ok n w' =>
     cases n <;> simp only [Oper.upon] at h1 ⊢
     . exact hnext _ _ (hsize _) h1
     . exact hnext _ _ (hsize _) h1
     .
      exact h1.mono fun e w'' he => by
       cases e <;> first | exact hnext _ _ (hsize _) he | exact he
     .
      refine hnext _ _ ?_ h1
      cases hdd : ops[i].dst <;> simp [Act.put]
     . exact h1.mono fun _ _ he => hnext _ _ (hsize _) he
    | halt x w' => cases x <;> simp only [Oper.upon] at h1 ⊢ <;> exact h1
   .
    rename_i hw
    rw [if_neg hw] at h1; exact hnext _ _ (hsize _) h1
  .
   have hme : m = ops.size := by omega
   subst hme; have hre : Region.ready .any ops listed = [] := by
    cases hr : Region.ready .any ops listed with
    | nil => rfl
    | cons i l =>
     have : i ∈ Region.ready .any ops listed := by rw [hr]; exact Yf
     obtain ⟨h1, o, ho, _⟩ := mem_ready.1 this; have hi := (Xf.1 ho).1; have hl := (hL i hi).2 hi; have hil : i < listed.size := by omega
     simp only [Xc, Xa hil, Xk] at hl h1; rw [hl] at h1; cases h1
   rw [X4 (by simp)] at hv; refine ⟨fun _ => hQ a w ⟨s, β, hR, hv⟩, fun i hi => (by rw [hre] at hi; cases hi)⟩
end
end
section
open Go Go.RowKit
def EffAt (P : Program) (C : Ctx P) (nb nx nx' nt : Nat) (hp hp' : Hp) (E : Nat -> AV) (o : Oper) (r : AV) : Prop :=
 ∀ (a : Act) (w : World) (β : Ghost), Rel C ⟨nb, [], hp, nx, nt⟩ a w β -> (∀ t, rep w β nx (own β hp C.A) (E t) (a.tmps.getD t undef)) ->
  ∀ (K : Act -> World -> Prop) (Q : Exit -> Act -> World -> Prop), (∀ a' w' β', Rel C ⟨nb, [], hp', nx', nt⟩ a' w' β' -> (∀ t, rep w' β' nx' (own β' hp' C.A) (q4u E o.dst r t) (a'.tmps.getD t undef)) -> K a' w') -> o.wp P a w K Q
def j0q (P : Program) (C : Ctx P) (ops : Array Oper) (nb nx nx' nt : Nat) (hp hp' : Hp) (E : Nat -> AV) (o : Oper) (r : AV) : Prop :=
 ∀ (a : Act) (w : World) (β : Ghost), Rel C ⟨nb, [], hp, nx, nt⟩ a w β -> (∀ t, rep w β nx (own β hp C.A) (E t) (a.tmps.getD t undef)) ->
  ∀ (K : Act -> World -> Prop) (Q : Exit -> Act -> World -> Prop), (∀ a' w' β', Rel C ⟨nb, [], hp', nx', nt⟩ a' w' β' -> (∀ t, rep w' β' nx' (own β' hp' C.A) (q4u E o.dst r t) (a'.tmps.getD t undef)) -> K a' w') ->
   if Region.wanted o (yielded ops a.tmps) then o.wp P a w K Q else K (a.put o.dst undef) w
theorem EffAt.g {P : Program} {C : Ctx P} {ops : Array Oper} {nb nx nx' nt : Nat} {hp hp' : Hp} {E : Nat -> AV} {o : Oper} {r : AV} (hg : o.guard = none) (h : EffAt P C nb nx nx' nt hp hp' E o r) : j0q P C ops nb nx nx' nt hp hp' E o r :=
 fun a w β hR hE K Q hK => by rw [if_pos (by simp [Region.wanted, hg])]; exact h a w β hR hE K Q hK
def q8y (ops : Array Oper) (k : Nat) (listed : Array Bool) : Prop := ∀ i oi, ops[i]? = some oi -> listed.getD i false = true -> i < k /\ ∀ e ∈ oi.after, Region.binds .any e = true -> listed.getD e.on false = true
def qh0 (oj : Oper) (j : Nat) (listed : Array Bool) : Prop := listed.getD j false = false /\ ∀ e ∈ oj.after, Region.binds .any e = true -> listed.getD e.on false = true
section
variable {P : Program} {C : Ctx P} {nb nt : Nat}
theorem z3x {ops : Array Oper} {k : Nat} {r E0 : Nat -> AV} {Ej : Nat -> Nat -> AV} (hok : z2l ops = true) (ht : qv6 ops k = true) (hks : k <= ops.size) (hdst : qu9 nt ops.toList = true) (hEj : ∀ j, j < k -> EnvIs ops r E0 (· < j) (Ej j))
  (F : List Nat) (isE : Nat -> Bool) (H : Array Bool -> Hp) (N : Array Bool -> Nat)
  (hq : ∀ listed j oj, listed.size = ops.size -> j < k -> ops[j]? = some oj -> q8y ops k listed -> (∀ f ∈ F, listed.getD f false = true) -> qh0 oj j listed -> isE j = false -> QG P (H listed) (N listed) ops (Ej j) oj (r j) /\ H (listed.setIfInBounds j true) = H listed /\ N (listed.setIfInBounds j true) = N listed)
  (he : ∀ listed j oj, listed.size = ops.size -> j < k -> ops[j]? = some oj -> q8y ops k listed -> (∀ f ∈ F, listed.getD f false = true) -> qh0 oj j listed -> isE j = true -> ∀ E, EnvIs ops r E0 (fun i => listed.getD i false = true) E -> (∀ t ∈ oj.looksAt ops, E t = Ej j t) ->
   j0q P C ops nb (N listed) (N (listed.setIfInBounds j true)) nt (H listed) (H (listed.setIfInBounds j true)) E oj (r j))
  {Q : Exit -> Act -> World -> Prop} {Ef : Nat -> AV} (hEf : EnvIs ops r E0 (· < k) Ef)
  (hQ : ∀ fuel listed a w β, listed.size = ops.size -> (∀ i, i < ops.size -> (listed.getD i false = true ↔ i < k)) -> ops.size - k <= fuel -> Rel C ⟨nb, [], H listed, N listed, nt⟩ a w β -> (∀ t, rep w β (N listed) (own β (H listed) C.A) (Ef t) (a.tmps.getD t undef)) -> wpAny P .any ops Q fuel listed a w) :
  ∀ (fuel : Nat) (listed : Array Bool) (a : Act) (w : World) (β : Ghost) (E : Nat -> AV), listed.size = ops.size -> ((Xj ops.size).filter fun i => !listed.getD i true).length <= fuel ->
   q8y ops k listed -> Rel C ⟨nb, [], H listed, N listed, nt⟩ a w β -> (∀ t, rep w β (N listed) (own β (H listed) C.A) (E t) (a.tmps.getD t undef)) -> EnvIs ops r E0 (fun i => listed.getD i false = true) E -> (∀ f ∈ F, listed.getD f false = true) -> wpAny P .any ops Q fuel listed a w := by
 obtain ⟨hlow, hap⟩ := qv3 hok; have htl := z1j ht; have hcount : ∀ (listed : Array Bool), listed.size = ops.size -> (∀ i, i < ops.size -> (listed.getD i false = true ↔ i < k)) -> ops.size - k <= ((Xj ops.size).filter fun i => !listed.getD i true).length := by
  intro listed hsz hL; have h1 : ((Xj ops.size).filter fun i => !listed.getD i true) = (Xj ops.size).filter fun i => !decide (i < k) := List.filter_congr fun i hi => by
   have his : i < ops.size := Xo.1 hi; have hil : i < listed.size := by omega
   have := hL i his; simp only [Xc, Xa hil, Xk] at this ⊢
   by_cases hik : i < k
   . simp [hik, this.2 hik]
   .
    cases hx : listed[i] with
    | false => simp [hik]
    | true => exact absurd (this.1 hx) hik
  rw [h1]; have h2 : ∀ n, n - k <= ((Xj n).filter fun i => !decide (i < k)).length := by
   intro n
   induction n with
   | zero => simp
   | succ n ih =>
    rw [List.range_succ, List.filter_append, Xv]
    by_cases hnk : n < k
    .
     have : n + 1 - k = 0 := by omega
     omega
    . simp [hnk]; omega
  exact h2 _
 intro fuel
 induction fuel with
 | zero =>
  intro listed a w β E hsz hcnt hcl hR hE hI hF; have hre : ∀ i, i < ops.size -> listed.getD i false = true := by
   intro i hi; have hil : i < listed.size := by omega
   cases hx : listed.getD i false with
   | true => rfl
   | false =>
    have : i ∈ (Xj ops.size).filter fun i => !listed.getD i true := List.mem_filter.2 ⟨Xo.2 hi, by
     simp only [Xc, Xa hil, Xk] at hx ⊢; simp [hx]⟩
    have := List.length_pos_of_mem this; omega
  have hall : ∀ i, i < ops.size -> (listed.getD i false = true ↔ i < k) := fun i hi => ⟨fun h => (hcl i _ (Xa hi) h).1, fun _ => hre i hi⟩; refine hQ 0 listed a w β hsz hall (Yg (hcount _ hsz hall) hcnt) hR fun t => ?_; rw [<- (hI.iff (L' := (· < k)) fun i hi => hall i hi).uniq hEf t]; exact hE t
 | succ fuel ih =>
  intro listed a w β E hsz hcnt hcl hR hE hI hF
  by_cases hfull : ∀ i, i < k -> listed.getD i false = true
  . have hall : ∀ i, i < ops.size -> (listed.getD i false = true ↔ i < k) := fun i hi => ⟨fun h => (hcl i _ (Xa hi) h).1, fun h => hfull i h⟩; refine hQ (fuel + 1) listed a w β hsz hall (Yg (hcount _ hsz hall) hcnt) hR fun t => ?_; rw [<- (hI.iff (L' := (· < k)) fun i hi => hall i hi).uniq hEf t]; exact hE t
  have hsome : ∃ i, i < k /\ listed.getD i false = false := Xl fun hn => hfull fun i hi => by
   cases hx : listed.getD i false with
   | true => rfl
   | false => exact absurd ⟨i, hi, hx⟩ hn
  obtain ⟨i0, hi0, hli0⟩ := hsome; refine ⟨fun hre => ?_, fun j hj => ?_⟩
  .
   exfalso
   have hallt : ∀ n i, i < n -> i < k -> listed.getD i false = true := by
    intro n
    induction n with
    | zero => intro i hi; omega
    | succ n ihn =>
     intro i hi hik; rcases Xx i n with hlt | hge
     . exact ihn i hlt hik
     .
      have hin : i = n := by omega
      subst hin; have his : i < ops.size := by omega
      by_cases hl : listed.getD i false = true
      . exact hl
      .
       exfalso
       have hoi : ops[i]? = some ops[i] := Xa his; have : i ∈ Region.ready .any ops listed := mem_ready.2 ⟨by
        have hli : i < listed.size := by omega
        simp only [Array.getD_eq_getD_getElem?, Array.getElem?_eq_getElem hli, Option.getD_some] at hl ⊢
        simpa using hl, ops[i], hoi, fun e he hb => ihn e.on (hlow i _ hoi e he hb) (Nat.lt_trans (hlow i _ hoi e he hb) hik)⟩
       rw [hre] at this
       cases this
   have := hallt k i0 hi0 hi0; rw [hli0] at this
   cases this
  obtain ⟨hun, oj, hoj, hedges⟩ := mem_ready.1 hj; have hjs : j < ops.size := (Xf.1 hoj).1; have hjl : j < listed.size := by omega
  have hLj : ¬ listed.getD j false = true := by
   simp only [Xc, Xa hjl, Xk] at hun ⊢; simp [hun]
  have hjk : j < k := by
   rcases Xx j k with h | h
   . exact h
   .
    exfalso
    have := q73 (listed := fun i => listed.getD i false = true) (fun i oi hoi hLi => (hcl i oi hoi hLi).2) ops.size j i0 oj hoj hedges (htl j hjs h i0 (by omega)); rw [hli0] at this
    cases this
  have hrdy : qh0 oj j listed := ⟨by simpa using hLj, hedges⟩; have hdj : q1n ops j = oj.dst := by simp [q1n, hoj]
  have ap1 : ∀ i oi, i < j -> ops[i]? = some oi -> ¬ listed.getD i false = true -> oi.apart ops oj = true := fun i oi hij hoi hLi => hap i j oi oj hij hoi hoj fun e he hb heq => hLi (by rw [<- heq]; exact hedges e he hb); have ap2 : ∀ i oi, j < i -> ops[i]? = some oi -> listed.getD i false = true -> oj.apart ops oi = true := fun i oi hij hoi hLi => hap j i oj oi hij hoj hoi fun e he hb heq => hLj (by rw [<- heq]; exact (hcl i oi hoi hLi).2 e he hb); have hag : ∀ t ∈ oj.looksAt ops, E t = Ej j t := hI.agree (hEj j hjk) hjs hLj
   (fun i hij hLi d hd => by
    have his : i < ops.size := Nat.lt_trans hij hjs; have hoi : ops[i]? = some ops[i] := Xa his; exact (Oper.apart_spec (ap1 i _ hij hoi hLi)).1 d (by simpa [q1n, hoi] using hd))
   (fun i hij his hLi d hd => by
    have hoi : ops[i]? = some ops[i] := Xa his; exact (Oper.apart_spec (ap2 i _ hij hoi hLi)).2.2 d (by simpa [q1n, hoi] using hd))
  have hstep := hI.step hjs fun k' hjk hks hLk d hd hd' => by
   have hok' : ops[k']? = some ops[k'] := Xa hks; exact (Oper.apart_spec (ap2 k' _ hjk hok' hLk)).2.1 d (by rw [<- hdj]; exact hd) (by simpa [q1n, hok'] using hd')
  have hgetset : ∀ (i : Nat) (b : Bool), (listed.setIfInBounds j true).getD i b = if j = i then true else listed.getD i b := fun i b => by
   by_cases hji : j = i
   . subst hji; rw [if_pos rfl]; simp [hjl]
   . rw [if_neg hji]; simp [hji]
  have hdok : dok nt oj.dst = true := by
   have := Xp.1 hdst oj (Xq.2 (Array.mem_of_getElem? hoj)); exact this
  -- what follows
  have hnext : ∀ a' w' β', Rel C ⟨nb, [], H (listed.setIfInBounds j true), N (listed.setIfInBounds j true), nt⟩ a' w' β' -> (∀ t, rep w' β' (N (listed.setIfInBounds j true)) (own β' (H (listed.setIfInBounds j true)) C.A) (q4u E oj.dst (r j) t) (a'.tmps.getD t undef)) ->
    wpAny P .any ops Q fuel (listed.setIfInBounds j true) a' w' := by
   intro a' w' β' hR' hE'; refine ih _ a' w' β' (q4u E (q1n ops j) (r j)) (by simpa using hsz) ?_ ?_ hR' (by rw [hdj]; exact hE') ?_ ?_
   . have := z3n (p := fun i => !listed.getD i true) (q := fun i => !(listed.setIfInBounds j true).getD i true) (x := j) List.nodup_range (Xo.2 hjs) (by simp only [hun]; rfl) (by simp only [hgetset, if_true]; rfl) (fun y hy => by simp only [hgetset, if_neg (Ne.symm hy)]); omega
   .
    intro i oi hoi hLi; rw [hgetset] at hLi
    by_cases hji : j = i
    .
     subst hji; rw [hoj] at hoi; simp only [Xb] at hoi; subst hoi; refine ⟨hjk, fun e he hb => ?_⟩; rw [hgetset]
     split
     . rfl
     . exact hedges e he hb
    .
     rw [if_neg hji] at hLi; refine ⟨(hcl i oi hoi hLi).1, fun e he hb => ?_⟩; rw [hgetset]
     split
     . rfl
     . exact (hcl i oi hoi hLi).2 e he hb
   .
    refine hstep.iff fun i _ => ?_; rw [hgetset]
    constructor
    .
     rintro (h1 | h1)
     .
      split
      . rfl
      . exact h1
     . rw [if_pos h1.symm]
    .
     intro h1
     by_cases hji : j = i
     . exact .inr hji.symm
     . rw [if_neg hji] at h1; exact .inl h1
   .
    intro f hf; rw [hgetset]
    split
    . rfl
    . exact hF f hf
  have hput : ∀ v w' β' hp0 nx0, Rel C ⟨nb, [], hp0, nx0, nt⟩ a w' β' -> rep w' β' nx0 (own β' hp0 C.A) (r j) v -> (∀ t, rep w' β' nx0 (own β' hp0 C.A) (E t) (a.tmps.getD t undef)) ->
    Rel C ⟨nb, [], hp0, nx0, nt⟩ (a.put oj.dst v) w' β' /\ ∀ t, rep w' β' nx0 (own β' hp0 C.A) (q4u E oj.dst (r j) t) ((a.put oj.dst v).tmps.getD t undef) := by
   intro v w' β' hp0 nx0 hR' hv hE'; refine ⟨?_, ?_⟩
   .
    have hz : (a.put oj.dst v).tmps.size = a.tmps.size := by cases hdd : oj.dst <;> simp [Act.put]
    have hf : (a.put oj.dst v).defers = a.defers := by cases hdd : oj.dst <;> rfl
    exact { df := by rw [hf]; exact hR'.df, nt := by rw [hz]; exact hR'.nt, ntc := hR'.ntc, nb := hR'.nb, alt := hR'.alt, gs := hR'.gs, hp := hR'.hp, ext := hR'.ext, env := fun t => by simp only [q0u, rep] }
   .
    intro t
    cases hdd : oj.dst with
    | none => simp only [q4u, Act.put]; exact hE' t
    | some d =>
     simp only [q4u, Act.put]; have hlt : d < a.tmps.size := by
      rw [hdd] at hdok; simp only [dok, decide_eq_true_eq] at hdok; rw [hR.nt]; exact hdok
     rw [z0l _ _ _ _ _ hlt]
     split
     . exact hv
     . exact hE' t
  have hev : ∀ x, rep w β (N listed) (own β (H listed) C.A) (evF E x) (a.eval x) := fun x => by
   cases x with
   | tmp t => exact hE t
   | const v => simp only [evF, rep, Act.eval]
   | global g => simp only [evF, rep, Act.eval]
   | func f => simp only [evF, rep, Act.eval]; exact ⟨[], rfl, by simp [x9]⟩
  unfold wpOp; rw [hoj]; simp only
  cases hie : isE j with
  | true =>
   have heff := he listed j oj hsz hjk hoj hcl hF hrdy hie E hI hag a w β hR hE _ Q hnext
   by_cases hw : Region.wanted oj (yielded ops a.tmps) = true
   . rw [if_pos hw] at heff ⊢; exact .inl heff
   . rw [if_neg hw] at heff ⊢; exact heff
  | false =>
   obtain ⟨hq1, hHe, hNe⟩ := hq listed j oj hsz hjk hoj hcl hF hrdy hie; have hQj := zp9 (fun t ht => (hag t ht).symm) hq1; have hnextq : ∀ v w', Still w w' -> rep w' β (N listed) (own β (H listed) C.A) (r j) v -> wpAny P .any ops Q fuel (listed.setIfInBounds j true) (a.put oj.dst v) w' := fun v w' hst hv => by
    obtain ⟨h1, h2⟩ := hput v w' β (H listed) (N listed) (hR.still hst) hv (fun t => z4a (s := ⟨nb, [], H listed, N listed, nt⟩) (C := C) hst (hE t)); exact hnext _ w' β (by rw [hHe, hNe]; exact h1) (by rw [hHe, hNe]; exact h2)
   unfold QG at hQj
   split at hQj
   .
    rename_i hg
    rw [if_pos (by simp [Region.wanted, hg])]; exact .inl (z3p hR hev hQj hnextq)
   .
    rename_i g want hg
    split at hQj
    .
     rename_i d hd
     split at hQj
     .
      rename_i gb hgb
      obtain ⟨r0, h1, h2⟩ := hQj; have hw := qh7 hg hd hgb (hE d); rw [hw]
      cases gb with
      | true =>
       rw [if_pos rfl]; exact .inl (z3p hR hev (h1 rfl) fun v w' hst hv => hnextq v w' hst (by rw [h2]; exact z0c hv))
      | false =>
       rw [if_neg (by simp)]; exact hnextq undef w (Still.refl w) (by rw [h2]; exact qw9)
     . exact hQj.elim
    . exact hQj.elim
end
end
section
open Go Go.RowKit
section
variable {P : Program}
theorem j0e {ops : Array Oper} {s : St} {K : St -> Prop} (k : Nat) (hm : P.follows .mixedOrders = true) (hk : k <= ops.size) (ht : qv6 ops k = true)
  (h : vcQ P ops (ops.toList.take k) s fun s' => q9n P ops (ops.toList.drop k) s' K) : qv2 P ops s K := by
 intro id hok C a w β hR Q' hQ; simp only [okB, Xd, Bool.not_true, Bool.false_or] at hok; obtain ⟨hdst, hdraw⟩ := hok; obtain ⟨r, h1, h2⟩ := zi0 (ops.toList.take k) s 0 h; have hf := qh1 (ops := ops) r s k hk; obtain ⟨e1, e2, e3, e4⟩ := z2w r (ops.toList.take k) 0 s; have hst : Still w { w with drawn := w.drawn + 1 } := ⟨rfl, rfl, ⟨rfl, fun _ => by first | exact X5 _ | exact Nat.le_succ _⟩, X5 _, fun _ _ => rfl⟩; have hR0 : Rel C ⟨s.nb, [], s.hp, s.nx, s.nt⟩ a { w with drawn := w.drawn + 1 } β := by
  have := hR.still (w' := { w with drawn := w.drawn + 1 }) hst; exact { df := this.df, nt := this.nt, ntc := this.ntc, nb := this.nb, alt := this.alt, gs := this.gs, hp := this.hp, ext := this.ext, env := fun t => by simp only [q0u, rep] }
 have hE0 := (hR.still (w' := { w with drawn := w.drawn + 1 }) hst).env; refine wp_region_any hm (z3x (C := C) (nb := s.nb) (nt := s.nt) (r := r) (E0 := q0u s.env) (Ej := fun j => q0u (q1j (ops.toList.take j) r 0 s).env) (k := k) hdraw ht hk hdst (fun j hj => qh1 r s j (by omega)) [] (fun _ => false) (fun _ => s.hp) (fun _ => s.nx)
  (fun listed j oj _ hj hoj _ _ _ _ => ⟨?_, rfl, rfl⟩) (fun _ _ _ _ _ _ _ _ _ hx => by cases hx) hf (fun fuel listed a' w' β' hsz hL hfu hR' hE' => ?_)
  ops.size (Array.replicate ops.size false) a _ β (q0u s.env) (by simp) ?_ ?_ hR0 hE0 ?_ (fun _ h => by cases h))
 . have := h1 j oj (by rw [List.getElem?_take, if_pos hj]; simpa using hoj); rw [Xr, List.take_take, Nat.min_eq_left (by omega)] at this; exact this
 . refine zi5 (k := k) (K := K) hdraw ht (fun a w ⟨s', β', hR', hk'⟩ => hQ _ _ _ _ _ hR' ⟨rfl, hk'⟩) fuel k listed (q1j (ops.toList.take k) r 0 s) a' w' β' (X5 _) hk hsz hL hfu (by rw [e3]; exact hdst) ?_ h2; exact { df := hR'.df, nt := by rw [e3]; exact hR'.nt, ntc := by rw [e3]; exact hR'.ntc, nb := by rw [e4]; exact hR'.nb, alt := hR'.alt, gs := hR'.gs, hp := by rw [e1, e2]; exact hR'.hp, ext := by rw [e1, e2]; exact hR'.ext, env := fun t => by rw [e1, e2]; exact hE' t }
 . exact Yg (List.length_filter_le _ _) (by simp)
 .
  intro i oi _ hL; simp [Xy] at hL
  split at hL <;> simp at hL
 .
  refine fun t => .inr ⟨fun i _ hL => ?_, rfl⟩; simp [Xy] at hL
  split at hL <;> simp at hL
end
end
section
open Go Go.RowKit
def maskAt (ms : List Nat) (i : Nat) (es : List Edge) : Nat := es.foldr (fun e m => if Region.binds .any e && decide (e.on < i) then (1 <<< e.on) ||| (ms.getD e.on 0 ||| m) else m) 0
def qm3 (ms : List Nat) : Nat -> List Oper -> Bool
 | _, [] => true
 | i, o :: r => ((ms.getD i 0 ||| maskAt ms i o.after.toList) == maskAt ms i o.after.toList) && qm3 ms (i + 1) r
theorem z1r {ms : List Nat} {i j : Nat} : ∀ {es : List Edge}, (maskAt ms i es).testBit j = true -> ∃ e ∈ es, Region.binds .any e = true /\ e.on < i /\ (e.on = j \/ (ms.getD e.on 0).testBit j = true)
 | [], h => by simp [maskAt] at h
 | e :: es, h => by
  have he : maskAt ms i (e :: es) = if Region.binds .any e && decide (e.on < i) then (1 <<< e.on) ||| (ms.getD e.on 0 ||| maskAt ms i es) else maskAt ms i es := rfl
  rw [he] at h
  split at h
  .
   rename_i hb
   simp only [Xd, decide_eq_true_eq] at hb; rw [X8, X8, Xi, Xi] at h; rcases h with h | h | h
   .
    refine ⟨e, by simp, hb.1, hb.2, .inl ?_⟩; rw [Nat.one_shiftLeft, Nat.testBit_two_pow] at h
    simpa using h
   . exact ⟨e, by simp, hb.1, hb.2, .inr h⟩
   . obtain ⟨e', h1, h2⟩ := z1r h; exact ⟨e', by simp [h1], h2⟩
  . obtain ⟨e', h1, h2⟩ := z1r h; exact ⟨e', by simp [h1], h2⟩
theorem z8l {ms : List Nat} : ∀ {l : List Oper} {k i : Nat} {o : Oper}, qm3 ms k l = true -> l[i]? = some o -> ∀ j, (ms.getD (k + i) 0).testBit j = true -> (maskAt ms (k + i) o.after.toList).testBit j = true
 | [], _, _, _, _, h, _, _ => by simp at h
 | o :: l, k, 0, o', h, hi, j, hb => by
  simp only [X1, Xb] at hi; subst hi; simp only [qm3, Xd, beq_iff_eq] at h; rw [Xs] at hb ⊢; rw [<- h.1, X8, hb, Bool.true_or]
 | o :: l, k, i + 1, o', h, hi, j, hb => by
  simp only [qm3, Xd] at h; rw [show k + (i + 1) = k + 1 + i by omega] at hb ⊢; exact z8l h.2 (by simpa using hi) j hb
theorem z4y {ops : Array Oper} : ∀ {n m i j : Nat}, n <= m -> q3r ops n i j = true -> q3r ops m i j = true
 | 0, _, _, _, _, h => by simp [q3r] at h
 | n + 1, 0, _, _, hm, _ => by omega
 | n + 1, m + 1, i, j, hm, h => by
  unfold q3r at h ⊢
  split at h
  .
   rename_i oi ho
   try simp only [ho]
   obtain ⟨e, he, hb⟩ := Xm.1 h; refine Xm.2 ⟨e, he, ?_⟩; simp only [Xd, Xi] at hb ⊢; refine ⟨hb.1, hb.2.imp id fun h1 => z4y (by omega) h1⟩
  . cases h
theorem zl2 {ops : Array Oper} {ms : List Nat} (h : qm3 ms 0 ops.toList = true) : ∀ (i j : Nat), i < ops.size -> (ms.getD i 0).testBit j = true -> q3r ops ops.size i j = true := by
 have key : ∀ (i j : Nat), i < ops.size -> (ms.getD i 0).testBit j = true -> q3r ops (i + 1) i j = true := by
  intro i
  induction i using Nat.strongRecOn with
  | _ i ih =>
   intro j hi hb; have ho : ops.toList[i]? = some ops[i] := by simp [hi]
   have h1 := z8l h ho j (by rw [Xr]; exact hb); rw [Xr] at h1; obtain ⟨e, he, hbi, hlt, h2⟩ := z1r h1; unfold q3r; rw [Xa hi]; refine Xm.2 ⟨e, Xq.1 he, ?_⟩; simp only [Xd, Xi, beq_iff_eq]; refine ⟨hbi, h2.imp id fun h3 => z4y (by omega) (ih e.on hlt j (by omega) h3)⟩
 intro i j hi hb; exact z4y (by omega) (key i j hi hb)
def z5e (ms : List Nat) (n k : Nat) : Bool := (Xj n).all fun i => decide (i < k) || (ms.getD i 0 &&& (2 ^ i - 1)) == 2 ^ i - 1
theorem zi6 {ops : Array Oper} {ms : List Nat} {k : Nat} (h : qm3 ms 0 ops.toList = true) (ht : z5e ms ops.size k = true) : qv6 ops k = true := by
 simp only [z5e, qv6, Xp, Xo, Xi, decide_eq_true_eq, beq_iff_eq] at ht ⊢; intro i hi; rcases ht i hi with h1 | h1
 . exact .inl h1
 .
  refine .inr fun j hj => zl2 h i j hi ?_; have h2 : (2 ^ i - 1).testBit j = true := by rw [Nat.testBit_two_pow_sub_one]; simpa using hj
  rw [<- h1, Nat.testBit_and, Xd] at h2; exact h2.1
theorem q0a {P : Program} {ops : Array Oper} {s : St} {K : St -> Prop} (k : Nat) (ms : List Nat) (hm : P.follows .mixedOrders = true) (hms : qm3 ms 0 ops.toList = true) (hk : k <= ops.size) (ht : z5e ms ops.size k = true)
  (h : vcQ P ops (ops.toList.take k) s fun s' => q9n P ops (ops.toList.drop k) s' K) : qv2 P ops s K := j0e k hm hk (zi6 hms ht) h
end
section
open Go Go.RowKit
theorem zd3 {id : Nat} {o o' : AObj} : ∀ {hp : Hp}, q0e hp id = some o -> (hp.map (·.1)).Nodup -> hp.Perm ((id, o) :: q41 hp id) /\ (q0o hp id o').Perm ((id, o') :: q41 hp id)
 | [], h, _ => by simp [q0e] at h
 | (k, q) :: r, h, hn => by
  simp only [Ya, List.nodup_cons] at hn; unfold q0e at h
  split at h
  .
   rename_i hk
   simp only [Xb] at h; subst hk; subst h; have hd : q41 r k = r := by
    have : ∀ (r : Hp), k ∉ r.map (·.1) -> q41 r k = r := by
     intro r
     induction r with
     | nil => intro _; rfl
     | cons p r ih =>
      intro hm; simp only [Ya, List.mem_cons, not_or] at hm; unfold q41; rw [if_neg (Ne.symm hm.1), ih hm.2]
    exact this r hn.1
   simp [q41, q0o, hd]
  .
   rename_i hk
   obtain ⟨h1, h2⟩ := zd3 (o' := o') h hn.2; simp only [q41, q0o, if_neg hk]; exact ⟨(h1.cons _).trans (List.Perm.swap _ _ _), (h2.cons _).trans (List.Perm.swap _ _ _)⟩
end
section
open Go Go.RowKit
theorem jf0 (b : Bool) : (b == true) = b := by cases b <;> rfl
theorem jf1 (b : Bool) : (b == false) = !b := by cases b <;> rfl
theorem je3 (b : Bool) : ((!b) = true) = (b = false) := by cases b <;> simp
theorem je4 (b : Bool) : ((!b) = false) = (b = true) := by cases b <;> simp
theorem j5a {α : Type} (x : α) (l r : List α) : Yh (x :: l) r = x :: Yh l r := rfl
theorem j7m {α : Type} (r : List α) : Yh [] r = r := rfl
section
variable (P : Program) (Q : Exit -> St -> Prop) (s : St)
def j5k (ops : Array Oper) (r : List Oper) (K : St -> Prop) (s : St) : Prop := q9n P ops r s K
theorem j3x (ops r K) (s : St) : j5k P ops r K s = q9n P ops r s K := rfl
theorem j14 (ops) (K : St -> Prop) : q9n P ops [] s K = K s := rfl
theorem zw2 (ops o r) (K : St -> Prop) : q9n P ops (o :: r) s K = vcG P ops o s (j5k P ops r K) := rfl
theorem j6b : vc P .skip Q s = Q .normal s := rfl
theorem j3e (i) : vc P (.label i) Q s = Q .normal s := rfl
theorem j84 : vc P .ret Q s = Q .ret s := rfl
theorem j6d (i) : vc P (.exit i) Q s = Q (.exit i) s := rfl
theorem j0z (id ops draw) : vc P (.region id ops draw) Q s = if draw = true then qv2 P ops s (Q .normal) else q9n P ops ops.toList s (Q .normal) := rfl
def qt2 (b : Code) : Exit -> St -> Prop := q5l (kont P b Q) Q
theorem j8f (b : Code) : qt2 P Q b .normal s = kont P b Q s := rfl
theorem j8g (b : Code) (i) : qt2 P Q b (.exit i) s = Q (.exit i) s := rfl
theorem j8e (b : Code) : qt2 P Q b .ret s = Q .ret s := rfl
theorem zh9 (a b) : vc P (.seq a b) Q s = if joins a = true then wpV P (.seq a b) Q s else vc P a (qt2 P Q b) s := rfl
theorem j6e (c x y) : vc P (.cond c x y) Q s = match u6 s.env c with
  | .v (.bool b) => (b = true -> j9l P x Q s) /\ (b = false -> j9l P y Q s)
  | _ => False := rfl
theorem j3f (i c) : vc P (.block i c) Q s = vc P c (q8h i Q) s := rfl
theorem j6c (c) : vc P (.loop c) Q s = wpV P (.loop c) Q s := rfl
variable (N : St -> Prop)
theorem j6l : q5l N Q .normal s = N s := rfl
theorem j6m (i) : q5l N Q (.exit i) s = Q (.exit i) s := rfl
theorem j6k : q5l N Q .ret s = Q .ret s := rfl
theorem j54 (i) : q8h i Q .normal s = Q .normal s := rfl
theorem j55 (i j) : q8h i Q (.exit j) s = if j = i then Q .normal s else Q (.exit j) s := rfl
theorem j53 (i) : q8h i Q .ret s = Q .ret s := rfl
variable (res : List ResultVar) (R : AV -> Hp -> Nat -> Prop)
theorem j8i : z1m P res R .normal s = match qt4 P s.hp s.env res with
  | some (c, rs) => c /\ z0b s (oneOf rs) R
  | none => False := rfl
theorem j8h : z1m P res R .ret s = match qt4 P s.hp s.env res with
  | some (c, rs) => c /\ z0b s (oneOf rs) R
  | none => False := rfl
end
def quK (P : Program) (ops : Array Oper) (r : List Oper) (K : St -> Prop) (s : St) (dst : Option Nat) (x : AV) : Prop := vcQ P ops r (s.put dst x) K
theorem j8k (P : Program) (ops : Array Oper) (r : List Oper) (K : St -> Prop) (s : St) (dst : Option Nat) (x : AV) : quK P ops r K s dst x = vcQ P ops r (s.put dst x) K := rfl
theorem j6g (P : Program) (ops : Array Oper) (s : St) (K : St -> Prop) : vcQ P ops [] s K = K s := rfl
theorem j3g (P : Program) (ops : Array Oper) (o : Oper) (r : List Oper) (s : St) (K : St -> Prop) : vcQ P ops (o :: r) s K = qG P ops s o (quK P ops r K s o.dst) := rfl
def exQ (P : Program) (f : FuncId) (args : List AV) (nx : Nat) (g : Bool) (K : AV -> Prop) : Prop := ∃ r, (g = true -> PureS P f args nx r) /\ K r
def exK (g : Bool) (K : AV -> Prop) (r : AV) : Prop := K (mkG g r)
theorem j97 (g : Bool) (K : AV -> Prop) (r : AV) : exK g K r = K (mkG g r) := rfl
theorem j9w (P : Program) (s : St) (op : Op) (K : AV -> Prop) : qG.qO P s op K = match qh8 P s.hp (u6 s.env) op with
 | some (c, r) => c /\ K r
 | none => qG.qX P s op true K := rfl
def z2c (P : Program) (o : Oper) (K : AV -> Prop) (s : St) (g : Bool) : Prop := (g = true -> qG.qO P s o.op (exK true K)) /\ (g = false -> K (mkG false .junk))
theorem j3q (P : Program) (o : Oper) (K : AV -> Prop) (s : St) : z2c P o K s true = qG.qO P s o.op (exK true K) := by simp [z2c]
theorem j3r (P : Program) (o : Oper) (K : AV -> Prop) (s : St) : z2c P o K s false = K (mkG false .junk) := by simp [z2c]
theorem j9x (P : Program) (ops : Array Oper) (s : St) (o : Oper) (K : AV -> Prop) : qG P ops s o K = match o.guard with
 | none => qG.qO P s o.op K
 | some (j, want) => match q1n ops j with
  | some d => match qw1 (q0u s.env d) want with
   | some g => if z7s o.op = true then z2c P o K s g else match qh8 P s.hp (u6 s.env) o.op with
    | some (c, r) => (g = true -> c) /\ K (mkG g r)
    | none => if bsO o.op = true then qG.qX P s o.op g (exK g K) else z2c P o K s g
   | none => False
  | none => False := rfl
def qXs (P : Program) (s : St) (op : Op) (g : Bool) (K : AV -> Prop) : Prop := match op with
  | .call c => match c.callee, c.args.toList, c.argTypes.toList with
   | .value fo, args, _ => match (u6 s.env fo).st with
    | .clo f caps => (g = true -> (True /\ (u6 s.env fo).need /\ needs (args.map (u6 s.env)) /\ q0f ((args.map fun x => (u6 s.env x).st) ++ caps) = true)) /\ exQ P f ((args.map fun x => (u6 s.env x).st) ++ caps) 0 g K
    | _ => False
   | _, _, _ => False
  | .buildSlice t n parts => match sliceT P t, qq4 (parts.toList.map fun p => (u6 s.env p.2).st) with
   | some e, some rs => match q1i P e with
    | some zs => (g = true -> q12 P e = true /\ zs.length = szT P e /\ 0 < szT P e /\ n * szT P e <= 16777216 /\ q8t parts.toList 0 = true /\ parts.toList.length = n /\ needs (parts.toList.map fun p => u6 s.env p.2) /\ qj8 (szT P e) rs = true /\
       rs.flatten.all q8n = true /\ rs.flatten.all q8j = true) /\ K (.sl (szT P e) (rs.map (q1l (qv0 s.hp P e))))
    | none => False
   | _, _ => False
  | .makeSlice t l c => match (u6 s.env l).st, (u6 s.env c).st, sliceT P t with
   | .v (.int _ n), .v (.int _ m), some e => match q1i P e with
    | some zs => (g = true -> (u6 s.env l).need /\ (u6 s.env c).need /\ m = n /\ q12 P e = true /\ zs.length = szT P e /\ 0 < szT P e /\ 0 < q1v P e /\ 0 <= n /\ n * q1v P e <= 140737488355328 /\ zs.all (·.oneCell') = true) /\
      K (.sl (szT P e) (Xg n.toNat (q1l (qv0 s.hp P e) (zs.map AV.v))))
    | none => False
   | _, _, _ => False
  | _ => False
theorem j9v (P : Program) (s : St) (op : Op) (g : Bool) (K : AV -> Prop) : qG.qX P s op g K = qXs P s op g K := by
 unfold qG.qX qXs
 cases op <;> try rfl
 rename_i c
 simp only
 cases c.callee <;> try rfl
 rename_i fo
 simp only
 cases (u6 s.env fo).st <;> try rfl
 simp only [exQ]; apply propext
 constructor
 . rintro ⟨r, h1, h2⟩; exact ⟨fun hg => (h1 hg).1, r, fun hg => (h1 hg).2, h2⟩
 . rintro ⟨h1, r, h2, h3⟩; exact ⟨r, fun hg => ⟨h1 hg, h2 hg⟩, h3⟩
theorem callq {P : Program} {f : FuncId} {args args' : List AV} {nx : Nat} {g : Bool} {K : AV -> Prop} {r : AV} (h : g = true -> PureS P f args' 0 r) (ha : args = args') (hf : q0f args' = true) (hk : K r) : exQ P f args nx g K := by
 subst ha; exact ⟨r, fun hg => (h hg).up hf nx, hk⟩
theorem j6s {P : Program} {Q : Exit -> St -> Prop} {s : St} {x y : Code} (h : vc P x (qt2 P Q y) s) : wpV P (.seq x y) Q s := j8d h
attribute [go_sem] j9g j9i j9h j9j j8q j1w j1y j1z j1x j52 j57 Nat.reduceSub zg8 zy8 q1l bsO and_assoc Nat.lt_irrefl Option.isSome_some Option.isSome_none j6b j3e j84 j6d j0z zh9 j6e j3f j6c joins falls j3x j51 j14 zw2 vcG z7s j3s j3t vcO vcX j8k j6g j3g j97 j3q j3r j9w j9x j9v qXs qw1 mkG q1n qh8 fop n1 u6 q0u ql2 St.put j6l j6m j6k j8f j8g j8e j54 j55 j53 j8i j8h qt4 oneOf AV.st AV.need oneed Option.map_some Option.map_none j0l z98 unR zz1 zz3 zz7 zh0 zh1 z8w z8q z5l q7q z7t q8g z3j z4w z5q eqR qb9 eqA zp3 zg5 j00 zh2 qu8 qq4 q9b q0e q0o q41 q5u needs q75 frz qq9 q8j q8n q8t qj8 Ya List.map_nil Xw List.flatten_nil List.all_cons List.all_nil List.append_nil List.nil_append Xz X0 List.length_nil List.getElem?_toArray X1 List.getElem?_cons_succ Option.bind_some if_true if_false true_and and_true and_self Bool.false_eq_true Bool.true_eq_false Bool.or_false Bool.false_or Bool.or_true Bool.true_or Bool.and_false Bool.false_and Bool.and_true Bool.true_and Bool.not_true Bool.not_false beq_self_eq_true zx5 ne_eq not_false_eq_true not_true_eq_false forall_const X9 Xr Xs false_implies implies_true true_implies Yb Yc Yd Xu List.take_zero List.set_cons_zero List.set_cons_succ true_or or_true or_false false_or Value.oneCell' Nat.add_eq_left X2 Nat.add_assoc decide_eq_true_eq decide_eq_false_iff_not ge_iff_le gt_iff_lt Int.toNat_natCast beq_iff_eq Xd decide_true decide_false Int.natCast_nonneg imp_self Int.natCast_eq_zero j5a j7m lits jf0 jf1 bne q69 je3 je4 undef
attribute [go_sem] z2d j7p zh4 j0p z5d j64 zh3 q90 AvLe AvLe.AvLeL q6a q0u q0e Nat.sub_self Nat.add_sub_cancel_left Yb Yc List.getD_nil if_true if_false true_and and_true and_self Xb exists_eq_left' Nat.lt_succ_self Nat.add_eq_left Nat.left_eq_add z8f forall_const List.mem_nil_iff false_implies implies_true not_false_eq_true ne_eq exists_eq_left X5 Nat.le_add_right Nat.lt_add_right_iff_pos X2 zy5 Nat.add_assoc j4y z5i z2s z4b j6w j89 qa4 j1a zt1 j5i zt0 q11 q6j z3m z7k q0k q0f zr8
end
section
open Go Go.RowKit
def z8v (g : TypeId -> Option (List (Option IntKind))) (c : TypeId -> Nat) : List Field -> Nat -> Option (List (Option IntKind))
 | [], _ => some []
 | f :: r, o => if f.name = "_" \/ f.offset ≠ o then none else match g f.type with
  | some sh => if c f.type = sh.length then (z8v g c r (o + sh.length)).map (sh ++ ·) else none
  | none => none
def qa9 (P : Program) : Nat -> TypeId -> Option (List (Option IntKind))
 | 0, _ => none
 | m + 1, t => if q12 P t = true then match P.underlying t with
  | some .bool => some [none]
  | some (.int k) => some [some k]
  | some (.struct fs) => if P.stoodInHeld t = true then none else z8v (qa9 P m) (szT P) fs.toList 0
  | some (.array n e) => match qa9 P m e with
   | some sh => if szT P e = sh.length /\ P.cellsOf e = sh.length then some (Xg n sh).flatten else none
   | none => none
  | _ => none else none
def VT (P : Program) (t : TypeId) (us : List Value) (x : Value) : Prop := match P.underlying t with
 | some (.struct _) => x = .agg ⟨us⟩
 | some (.array _ _) => x = .agg ⟨us⟩
 | _ => us = [x]
theorem qy2 : ∀ {us : List Value} {sh}, q1o us = some sh -> us.length = sh.length
 | [], sh, h => by simp [q1o] at h; subst h; rfl
 | u :: r, sh, h => by
  cases u <;> simp only [q1o, Xe, reduceCtorEq] at h
  all_goals (obtain ⟨s, h1, rfl⟩ := h; simp [qy2 h1])
theorem qg5 : ∀ {sh1 sh2 : List (Option IntKind)} {us : List Value}, q1o us = some (sh1 ++ sh2) -> q1o (us.take sh1.length) = some sh1 /\ q1o (us.drop sh1.length) = some sh2
 | [], sh2, us, h => by simpa [q1o] using h
 | a :: sh1, sh2, [], h => by simp [q1o] at h
 | a :: sh1, sh2, u :: us, h => by
  cases u <;> simp only [q1o, Xe, reduceCtorEq, Xz, X3] at h
  all_goals
   obtain ⟨s, h1, rfl, rfl⟩ := h; have := qg5 h1; simp [q1o, this.1, this.2]
theorem z4t : ∀ {sh : List (Option IntKind)} {us vs : List Value}, q1o (us.take sh.length) = some sh -> q1o (vs.take sh.length) = some sh -> eqV us vs = (eqV (us.take sh.length) (vs.take sh.length) && eqV (us.drop sh.length) (vs.drop sh.length))
  | [], us, vs, _, _ => by simp [eqV]
  | a :: sh, [], vs, h, _ => by simp [q1o] at h
  | a :: sh, u :: us, [], _, h => by simp [q1o] at h
  | a :: sh, u :: us, v :: vs, h, h' => by
    simp only [X0, Xu] at h h'
    cases u <;> simp only [q1o, Xe, reduceCtorEq, X3] at h
    all_goals
      obtain ⟨s, h1, rfl, rfl⟩ := h
      cases v <;> simp only [q1o, Xe, reduceCtorEq, X3, Xb] at h'
      all_goals
        obtain ⟨s', h2, h3⟩ := h'
        first
          | (exfalso; simp at h3; done)
          | (have h4 := h3.2
             subst h4; have := z4t h1 h2; simp only [eqV, X0, Xu, Yd, this, Bool.and_assoc])
theorem z4r {P : Program} {m : Nat} {t : TypeId} {sh} (h : qa9 P m t = some sh) : q12 P t = true := by
 cases m with
 | zero => simp [qa9] at h
 | succ m =>
  unfold qa9 at h
  split at h
  . assumption
  . cases h
theorem qm7 {P : Program} {w : World} {m : Nat} {t : TypeId} {sh} (h : qa9 P m t = some sh) (hz : szT P t = sh.length) (us : List Value) (off : Nat) (hs : q1o ((us.drop off).take sh.length) = some sh) :
  ∃ x, (part t ⟨us⟩ off).run P w = .ok x w /\ VT P t ((us.drop off).take sh.length) x := by
 have hh := z4r h
 cases m with
 | zero => simp [qa9] at h
 | succ m =>
  unfold qa9 at h; rw [if_pos hh] at h; have one : ∀ k, sh = [k] -> ∃ u, (us.drop off).take sh.length = [u] /\ us[off]? = some u := by
   rintro k rfl; have hl := qy2 hs
   cases hd : us.drop off with
   | nil => rw [hd] at hl; simp at hl
   | cons u r =>
    refine ⟨u, by simp, ?_⟩; have := List.getElem?_drop (xs := us) (i := off) (j := 0); rw [hd] at this
    simpa using this.symm
  split at h
  .
   rename_i hu
   simp only [Xb] at h; obtain ⟨u, h1, h2⟩ := one none h.symm; refine ⟨u, ?_, by rw [h1]; simp [VT, hu]⟩; unfold part; simp [q9y hh, q5c, hu, h2]
  .
   rename_i k hu
   simp only [Xb] at h; obtain ⟨u, h1, h2⟩ := one (some k) h.symm; refine ⟨u, ?_, by rw [h1]; simp [VT, hu]⟩; unfold part; simp [q9y hh, q5c, hu, h2]
  .
   rename_i fs hu
   refine ⟨.agg ⟨(us.drop off).take sh.length⟩, ?_, by simp [VT, hu]⟩; unfold part; simp [q9y hh, q5c, hu, run_sizeOf hh, hz]
  .
   rename_i n e hu
   refine ⟨.agg ⟨(us.drop off).take sh.length⟩, ?_, by simp [VT, hu]⟩; unfold part; simp [q9y hh, q5c, hu, run_sizeOf hh, hz]
  . cases h
theorem z3v {P : Program} {w : World} {m d : Nat}
  (IH : ∀ t sh, qa9 P m t = some sh -> ∀ us vs x y, VT P t us x -> VT P t vs y -> q1o us = some sh -> q1o vs = some sh -> (Op.equalIn (d + m) t x y).run P w = .ok (eqV us vs) w) :
  ∀ (fs : List Field) (o : Nat) (sh), z8v (qa9 P m) (szT P) fs o = some sh -> ∀ us vs : List Value, q1o (us.drop o) = some sh -> q1o (vs.drop o) = some sh ->
   (Op.eqFields (d + m) ⟨us⟩ ⟨vs⟩ fs).run P w = .ok (eqV (us.drop o) (vs.drop o)) w
 | [], o, sh, h, us, vs, h1, h2 => by
  simp only [z8v, Xb] at h; subst h; have e1 := qy2 h1; have e2 : us.drop o = [] := Xt (by simpa using e1); rw [e2]; simp [Op.eqFields, eqV]
 | f :: fs, o, sh, h, us, vs, h1, h2 => by
  unfold z8v at h
  split at h
  . cases h
  .
   rename_i hc
   split at h
   .
    rename_i s hs
    split at h
    .
     rename_i hz
     simp only [Xe] at h; obtain ⟨r, hr, rfl⟩ := h; have hn : f.name ≠ "_" := fun hx => hc (.inl hx); have ho : f.offset = o := Xl fun hx => hc (.inr hx); obtain ⟨a1, a2⟩ := qg5 h1; obtain ⟨b1, b2⟩ := qg5 h2; obtain ⟨x, p1, v1⟩ := qm7 (w := w) hs hz us o a1; obtain ⟨y, p2, v2⟩ := qm7 (w := w) hs hz vs o b1; have p3 := IH _ _ hs _ _ _ _ v1 v2 a1 b1; rw [Xh] at a2 b2; have p4 := z3v IH fs (o + s.length) r hr us vs a2 b2; rw [z4t a1 b1, Xh, Xh]; simp only [Op.eqFields, hn, ne_eq, not_false_eq_true, if_true, Sem.run_bind, ho, p1, p2, p3, Result.andThen_ok]
     cases eqV ((us.drop o).take s.length) ((vs.drop o).take s.length)
     . simp
     . simpa using p4
    . cases h
   . cases h
theorem z4u {P : Program} {w : World} {m d : Nat} {e : TypeId} {s : List (Option IntKind)} (hs : qa9 P m e = some s) (hz : szT P e = s.length)
  (IH : ∀ us vs x y, VT P e us x -> VT P e vs y -> q1o us = some s -> q1o vs = some s -> (Op.equalIn (d + m) e x y).run P w = .ok (eqV us vs) w) (us vs : List Value) :
  ∀ (n o : Nat), q1o (us.drop (o * s.length)) = some (Xg n s).flatten -> q1o (vs.drop (o * s.length)) = some (Xg n s).flatten ->
   (Op.eqItems (d + m) e s.length ⟨us⟩ ⟨vs⟩ (List.range' o n)).run P w = .ok (eqV (us.drop (o * s.length)) (vs.drop (o * s.length))) w
 | 0, o, h1, h2 => by
  have e1 := qy2 h1; have e2 : us.drop (o * s.length) = [] := Xt (by simpa using e1); rw [e2]; simp [Op.eqItems, eqV]
 | n + 1, o, h1, h2 => by
  rw [Ye, Xw] at h1 h2; obtain ⟨a1, a2⟩ := qg5 h1; obtain ⟨b1, b2⟩ := qg5 h2; obtain ⟨x, p1, v1⟩ := qm7 (w := w) hs hz us (o * s.length) a1; obtain ⟨y, p2, v2⟩ := qm7 (w := w) hs hz vs (o * s.length) b1; have p3 := IH _ _ _ _ v1 v2 a1 b1; have eo : o * s.length + s.length = (o + 1) * s.length := by rw [Yi, Nat.one_mul]
  rw [Xh, eo] at a2 b2; have p4 := z4u hs hz IH us vs n (o + 1) a2 b2; rw [z4t a1 b1, Xh, Xh, eo]; simp only [List.range'_succ, Op.eqItems, Sem.run_bind, p1, p2, p3, Result.andThen_ok]
  cases eqV ((us.drop (o * s.length)).take s.length) ((vs.drop (o * s.length)).take s.length)
  . simp
  . simpa using p4
theorem z0p {P : Program} {w : World} (d : Nat) : ∀ (m : Nat) (t : TypeId) (sh), qa9 P m t = some sh -> ∀ us vs x y, VT P t us x -> VT P t vs y -> q1o us = some sh -> q1o vs = some sh ->
  (Op.equalIn (d + m) t x y).run P w = .ok (eqV us vs) w
 | 0, t, sh, h, _, _, _, _, _, _, _, _ => by simp [qa9] at h
 | m + 1, t, sh, h, us, vs, x, y, hx, hy, h1, h2 => by
  have hh := z4r h; unfold qa9 at h; rw [if_pos hh] at h
  split at h
  .
   rename_i hu
   simp only [Xb] at h; subst h; simp only [VT, hu] at hx hy; subst hx; subst hy
   cases x <;> simp [q1o] at h1
   cases y <;> simp [q1o] at h2
   rw [show d + (m + 1) = d + m + 1 from rfl, run_equalIn_bool w (d + m) t _ _ hu]; simp [eqV]
  .
   rename_i k hu
   simp only [Xb] at h; subst h; simp only [VT, hu] at hx hy; subst hx; subst hy
   cases x <;> simp [q1o] at h1
   cases y <;> simp [q1o] at h2
   subst h1; subst h2; rw [show d + (m + 1) = d + m + 1 from rfl, run_equalIn_int w (d + m) t _ _ _ _ hu]; simp [eqV]
  .
   rename_i fs hu
   split at h
   . cases h
   .
    rename_i hst
    simp only [VT, hu] at hx hy; subst hx; subst hy; have hfs : P.fieldsOf t = fs := by simp [Program.fieldsOf, hu]
    rw [show d + (m + 1) = d + m + 1 from rfl, run_equalIn_struct w (d + m) t _ _ (by rw [hfs]; exact hu) (by simpa using hst), hfs]; have := z3v (w := w) (d := d) (fun t sh h => z0p d m t sh h) fs.toList 0 sh h us vs (by simpa using h1) (by simpa using h2)
    simpa using this
  .
   rename_i n e hu
   split at h
   .
    rename_i s hs
    split at h
    .
     rename_i hz
     simp only [Xb] at h; subst h; simp only [VT, hu] at hx hy; subst hx; subst hy; obtain ⟨i, _, hi, _, _⟩ := qp3 (z4r hs); rw [show d + (m + 1) = d + m + 1 from rfl, run_equalIn_array w (d + m) _ _ hu hi, hz.2, List.range_eq_range']; have := z4u (w := w) (d := d) hs hz.1 (fun us vs x y => z0p d m e s hs us vs x y) us vs n 0 (by simpa using h1) (by simpa using h2)
     simpa using this
    . cases h
   . cases h
  . cases h
theorem j9q {P : Program} {t : TypeId} {sh} (hg : P.eqGuardType P.depth t = false) (ha : q5c P t = true) (h : qa9 P 9 t = some sh) : EqT P t sh := by
 refine ⟨hg, fun us vs h1 h2 w => ?_⟩; have hu : ∀ us, VT P t us (.agg ⟨us⟩) := by
  intro us; unfold VT; unfold q5c at ha
  split at ha <;> rename_i hu <;> first | (rw [hu]) | cases ha
 exact z0p 9991 9 t sh h us vs _ _ (hu _) (hu _) h1 h2
end
section
open Go Go.RowKit
theorem zk3 (b : Nat) : ¬ own noG [] (fun _ => False) b := by
 rintro (h | ⟨p, hp, _⟩)
 . exact h
 . cases hp
theorem j0i {P : Program} {f : FuncId} {args : List AV} {v : Value} (hb : q00 P f = true) (h : PureS P f args 0 (.v v)) (w : World) (hg : GLW P w) (vs : List Value)
  (ha : x9 w noG 0 (own noG [] (fun _ => False)) args vs) : Calls P f ⟨vs⟩ w fun e w' => e = .returned v /\ Below w.heap.size w w' := by
 refine ((h w noG (fun _ => False) vs (fun b hb => hb.elim) ha HpRel.nil ⟨hg, fun _ _ _ _ ⟨_, h, _⟩ => by cases h⟩).1 hb).mono ?_; rintro e w' ⟨u, r, hp', nx', β', rfl, ⟨rfl, rfl, rfl⟩, hr, hh, hext⟩; simp only [rep] at hr; subst hr; exact ⟨rfl, hext.os, hext.tape, hext.output.1, hext.size, fun k hk => hext.keep k hk (by rintro ⟨q, hq, _⟩; cases hq)⟩
end
section
open Go Go.RowKit
theorem qs0 (P : Program) (t : TypeId) : P.cellsOf t = szT P t := rfl
section
variable {H : Type} {enc : TypeId × Value -> H} {P : Program} {w : World} {base : Nat} {spare : Nat -> Bool} {held : Bool}
end
end
section
open Go Go.RowKit Go.WideShapes
inductive CT where
 | int (k : IntKind)
 | bool
 | str
 | sl (row : List CT)
mutual
def qx7 : CT -> AV -> Prop
 | .int k, a => ∃ n, a = .v (.int k n) /\ (Lit.int k n).wf = true
 | .bool, a => ∃ b, a = .v (.bool b)
 | .str, a => ∃ s : ByteArray, a = .v (.string s) /\ s.size <= maxLen
 | .sl row, a => ∃ rows, a = .sl row.length rows /\ rows.length <= maxLen /\ ∀ r ∈ rows, q2y row r
def q2y : List CT -> List AV -> Prop
 | [], avs => avs = []
 | c :: cs, avs => ∃ a r, avs = a :: r /\ qx7 c a /\ q2y cs r
end
def zo7 (g : TypeId -> Option (List CT)) (c : TypeId -> Nat) : List Field -> Nat -> Option (List CT)
 | [], _ => some []
 | f :: r, o => if f.offset ≠ o then none else match g f.type with
  | some sh => if c f.type = sh.length then (zo7 g c r (o + sh.length)).map (sh ++ ·) else none
  | none => none
def qr1 (P : Program) : Nat -> TypeId -> Option (List CT)
 | 0, _ => none
 | m + 1, t => match P.underlying t with
  | some .bool => some [.bool]
  | some (.int k) => some [.int k]
  | some .string => some [.str]
  | some (.slice e) => match qr1 P m e with
   | some row => if szT P e = row.length /\ 0 < row.length then some [.sl row] else none
   | none => none
  | some (.struct fs) => zo7 (qr1 P m) (szT P) fs.toList 0
  | some (.array n e) => match qr1 P m e with
   | some row => if szT P e = row.length then some (Xg n row).flatten else none
   | none => none
  | _ => none
def qp7 (w : World) (β : Ghost) (ow : Nat -> Prop) (cts : List CT) (us : List Value) : Prop := ∃ avs, q2y cts avs /\ x9 w β 0 ow avs us /\ ∀ u ∈ us, u.oneCell' = true
section
variable {w : World} {β : Ghost} {ow : Nat -> Prop}
theorem z4c : ∀ {cts : List CT} {avs : List AV}, q2y cts avs -> avs.length = cts.length
 | [], avs, h => by simp only [q2y] at h; subst h; rfl
 | c :: cs, avs, h => by
  simp only [q2y] at h; obtain ⟨a, r, rfl, _, h2⟩ := h; simp [z4c h2]
theorem zc5 : ∀ {c1 c2 : List CT} {a1 a2 : List AV}, q2y c1 a1 -> q2y c2 a2 -> q2y (c1 ++ c2) (a1 ++ a2)
 | [], c2, a1, a2, h, h2 => by simp only [q2y] at h; subst h; simpa using h2
 | c :: cs, c2, a1, a2, h, h2 => by
  simp only [q2y] at h; obtain ⟨a, r, rfl, h3, h4⟩ := h; simp only [Xz, q2y]; exact ⟨a, r ++ a2, rfl, h3, zc5 h4 h2⟩
theorem z6k {c1 c2 : List CT} {u1 u2 : List Value} (h1 : qp7 w β ow c1 u1) (h2 : qp7 w β ow c2 u2) : qp7 w β ow (c1 ++ c2) (u1 ++ u2) := by
 obtain ⟨a1, p1, q1, r1⟩ := h1; obtain ⟨a2, p2, q2, r2⟩ := h2; exact ⟨a1 ++ a2, zc5 p1 p2, q5g q1 q2, fun u hu => (List.mem_append.1 hu).elim (r1 u) (r2 u)⟩
theorem z2f {b : Nat} : ∀ (as : List AV) (us : List Value) (o : Nat), (∀ j (hj : j < us.length), w.cell? ⟨b, o + j, none⟩ = some us[j]) -> (∀ u ∈ us, u.oneCell' = true) -> x9 w β 0 ow as us -> q3s w β ow b as o
 | [], _, _, _, _, _ => by simp [q3s]
 | a :: as, [], _, _, _, h => by simp only [x9] at h
 | a :: as, u :: us, o, hc, h1, h => by
  simp only [x9] at h; simp only [q3s]; refine ⟨⟨u, by have := hc 0 (by simp); simpa only [Xs, X6] using this, h1 u (by simp), h.1⟩, z2f as us (o + 1) (fun j hj => ?_) (fun v hv => h1 v (by simp [hv])) h.2⟩; have := hc (j + 1) (by simp; omega); rw [show o + 1 + j = o + (j + 1) by omega, this]; simp
theorem z7y {b sz : Nat} : ∀ (L : List (List AV)) (o : Nat), (∀ i (hi : i < L.length), L[i].length = sz /\ q3s w β ow b L[i] (o + i * sz)) -> q0j w β ow sz b L o
 | [], o, _ => by simp [q0j]
 | r :: rs, o, h => by
  have h0 := h 0 (by simp); simp only [X6, Nat.zero_mul, Xs] at h0; simp only [q0j]; refine ⟨h0.1, h0.2, z7y rs (o + sz) (fun i hi => ?_)⟩; have := h (i + 1) (by simp; omega); simp only [List.getElem_cons_succ] at this; refine ⟨this.1, ?_⟩; rw [show o + sz + i * sz = o + (i + 1) * sz by rw [Yi]; omega]; exact this.2
variable {H : Type} {enc : TypeId × Value -> H} {P : Program} {base : Nat} {spare : Nat -> Bool} {held : Bool}
theorem zb6 {m n : Nat} (IH : ∀ t cts, qr1 P m t = some cts -> szT P t = cts.length -> ∀ fuel cs x, DataW.trod enc P w base spare held fuel t cs = some x -> qp7 w β ow cts cs) (cs : List Value) :
  ∀ (fs : List Field) (o : Nat) (sh), zo7 (qr1 P m) (szT P) fs o = some sh -> (∀ f ∈ fs, ∃ y, DataW.trod enc P w base spare held n f.type ((cs.drop f.offset).take (P.cellsOf f.type)) = some y) ->
   qp7 w β ow sh ((cs.drop o).take sh.length)
 | [], o, sh, h, _ => by
  simp only [zo7, Xb] at h; subst h; exact ⟨[], by simp [q2y], by simp [x9], by simp⟩
 | f :: fs, o, sh, h, hall => by
  unfold zo7 at h
  split at h
  . cases h
  .
   rename_i hc
   split at h
   .
    rename_i s hs
    split at h
    .
     rename_i hz
     simp only [Xe] at h; obtain ⟨r, hr, rfl⟩ := h; have ho : f.offset = o := Xl hc; obtain ⟨y, hy⟩ := hall f (by simp); rw [ho, qs0, hz] at hy; have h1 := IH _ _ hs hz _ _ _ hy; have h2 := zb6 IH cs fs (o + s.length) r hr (fun g hg => hall g (by simp [hg])); have he : (cs.drop o).take (s ++ r).length = (cs.drop o).take s.length ++ (cs.drop (o + s.length)).take r.length := by
      rw [Xv, List.take_add, Xh]
     rw [he]; exact z6k h1 h2
    . cases h
   . cases h
theorem zi4 {e : TypeId} {row : List CT} (cs : List Value) (hz : szT P e = row.length) : ∀ (n o : Nat), (∀ i, i < n -> qp7 w β ow row ((cs.drop (o + i * row.length)).take row.length)) ->
  qp7 w β ow (Xg n row).flatten ((cs.drop o).take (Xg n row).flatten.length)
 | 0, o, _ => ⟨[], by simp [q2y], by simp [x9], by simp⟩
 | n + 1, o, h => by
  have h0 := h 0 (by omega); simp only [Nat.zero_mul, Xs] at h0; have h1 := zi4 cs hz n (o + row.length) (fun i hi => by
   have := h (i + 1) (by omega); rw [show o + row.length + i * row.length = o + (i + 1) * row.length by rw [Yi]; omega]; exact this)
  rw [Ye, Xw, Xv, List.take_add, Xh]; exact z6k h0 h1
theorem qy1 (how : ∀ b, ¬ ow b) : ∀ (m : Nat) (t : TypeId) (cts), qr1 P m t = some cts -> szT P t = cts.length -> ∀ fuel cs x, DataW.trod enc P w base spare held fuel t cs = some x -> qp7 w β ow cts cs
 | 0, t, cts, h, _, _, _, _, _ => by simp [qr1] at h
 | m + 1, t, cts, h, hz, fuel, cs, x, hx => by
  unfold qr1 at h
  split at h
  .
   rename_i hu
   simp only [Xb] at h; subst h; obtain ⟨b, rfl, _⟩ := DataW.trod_bool hu hx; exact ⟨[.v (.bool b)], by simp [q2y, qx7], by simp [x9, rep], by simp [Value.oneCell']⟩
  .
   rename_i k hu
   simp only [Xb] at h; subst h; obtain ⟨n, rfl, _, hw⟩ := DataW.trod_int hu hx; exact ⟨[.v (.int k n)], by simp [q2y, qx7, hw], by simp [x9, rep], by simp [Value.oneCell']⟩
  .
   rename_i hu
   simp only [Xb] at h; subst h; obtain ⟨s, rfl, _, hw⟩ := DataW.trod_string hu hx; exact ⟨[.v (.string s)], by simp [q2y, qx7, hw], by simp [x9, rep], by simp [Value.oneCell']⟩
  .
   rename_i e hu
   split at h
   .
    rename_i row hrow
    split at h
    .
     rename_i hzr
     obtain ⟨hzr, hpos⟩ := hzr; simp only [Xb] at h; subst h; rcases Go.Deep.open_slice hu hx with ⟨rfl, _⟩ | ⟨a, len, cap, M, n, D, Pl, rfl, _, hl, hm, hM, _, hi⟩
     . exact ⟨[.sl row.length []], by simp [q2y, qx7], by simp [x9, rep], by simp [Value.oneCell']⟩
     .
      have hlM : len <= M := by rw [hM]; split <;> omega
      rw [qs0, hzr] at hi; obtain ⟨f, hf⟩ := Go.Deep.choose_lt (α := List AV × List Value) (n := len) (p := fun i q => w.cells? base (a.add (i * row.length)) row.length = some q.2 /\ q2y row q.1 /\ x9 w β 0 ow q.1 q.2 /\ ∀ u ∈ q.2, u.oneCell' = true) (fun i hlt => by
       obtain ⟨cs', hc, htr⟩ := hi i (by omega); obtain ⟨avs, k1, k2, k3⟩ := qy1 how m e row hrow hzr _ _ _ htr; exact ⟨(avs, cs'), hc, k1, k2, k3⟩)
      have hcell : ∀ i, i < len -> (f i).2.length = row.length /\ ∀ j, j < row.length -> w.cell? (a.add (i * row.length + j)) = (f i).2[j]? := fun i hlt => by
       obtain ⟨_, hlen, hat⟩ := World.cells?_some (hf i hlt).1; refine ⟨by rw [q1f (hf i hlt).2.2.1 |>.symm, z4c (hf i hlt).2.1], fun j hj => ?_⟩; rw [<- Go.Deep.add_add]; exact hat j hj
      refine ⟨[.sl row.length ((Xj len).map fun i => (f i).1)], ?_, ?_, by simp [Value.oneCell']⟩
      . simp only [q2y, qx7]; refine ⟨_, _, rfl, ⟨_, rfl, by simp; omega, fun r hr => ?_⟩, rfl⟩; obtain ⟨i, hir, rfl⟩ := List.mem_map.1 hr; exact (hf i (by simpa using hir)).2.1
      .
       simp only [x9, rep]; refine ⟨?_, trivial⟩; rcases Nat.eq_zero_or_pos len with h0 | h0
       . subst h0; exact .inl ⟨by simp, _, _, rfl⟩
       .
        right
        have hcell0 := (hcell 0 h0).2 0 hpos; have hlen0 := (hcell 0 h0).1; rw [Xn (by omega)] at hcell0; obtain ⟨b, o, spot⟩ := a; have hsp : spot = none := by simpa [Addr.add] using World.cell?_spot hcell0
        subst hsp; have hadd : ∀ i, (⟨b, o, none⟩ : Addr).add i = ⟨b, o + i, none⟩ := fun i => by
         unfold Addr.add; split
         . rename_i h; subst h; rfl
         . rfl
        refine ⟨b, o, cap, by simp, by simpa using hl, how b, ?_, z7y _ _ (fun i hi' => ?_)⟩
        .
         rw [hadd] at hcell0; unfold World.cell? at hcell0
         split at hcell0
         .
          rename_i heq
          exact (Xf.1 heq).1
         . cases hcell0
        .
         have hlt : i < len := by simpa using hi'
         have h1 := hf i hlt; have h2 := hcell i hlt; simp only [List.getElem_map, List.getElem_range]; refine ⟨z4c h1.2.1, z2f _ _ _ (fun j hj => ?_) h1.2.2.2 h1.2.2.1⟩; have := h2.2 j (by omega); rw [hadd, Xn hj] at this; rw [show o + i * row.length + j = o + (i * row.length + j) by omega]; exact this
    . cases h
   . cases h
  .
   rename_i fs hu
   obtain ⟨ys, n, _, _, hl, hlen, hf⟩ := DataW.trod_struct hu hx; have := zb6 (enc := enc) (w := w) (base := base) (spare := spare) (held := held) (n := n) (fun t sh h hz fuel cs x => qy1 how m t sh h hz fuel cs x) cs fs.toList 0 cts h (fun f hfm => by
    obtain ⟨j, hj, hjf⟩ := List.getElem_of_mem hfm; have hjs : fs[j]? = some f := by
     rw [<- Array.getElem?_toList, List.getElem?_eq_getElem hj, hjf]
    have h1 := hf j f hjs; have hjy : j < ys.length := by
     have : j < fs.size := (Array.getElem?_eq_some_iff.1 hjs).1; omega
    rw [List.getElem?_eq_getElem hjy] at h1; exact ⟨_, h1⟩)
   have hcl : cs.length = cts.length := by rw [hl, qs0, hz]
   rw [X9, X7 (by omega)] at this; exact this
  .
   rename_i n e hu
   split at h
   .
    rename_i row hrow
    split at h
    .
     rename_i hzr
     simp only [Xb] at h; subst h; obtain ⟨ys, fu, _, _, hl, hlen, hf⟩ := DataW.trod_array hu hx; rw [qs0, hzr] at hf; have := zi4 (w := w) (β := β) (ow := ow) (P := P) (e := e) (row := row) cs hzr n 0 (fun i hi => by
      have h1 := hf i hi; rw [Xn (by omega)] at h1; rw [Xr]; exact qy1 how m e row hrow hzr _ _ _ h1)
     have hcl : cs.length = (Xg n row).flatten.length := by rw [hl, qs0, hz]
     rw [X9, X7 (by omega)] at this; exact this
    . cases h
   . cases h
  . cases h
end
class Dat (α : Type) extends Row α where
 ct : List CT
 ok : α -> Prop
 len : ct.length = sz
 of : ∀ avs, q2y ct avs -> ∃ x : α, avs = row x /\ ok x
def inI (k : IntKind) (n : Int) : Prop := (Lit.int k n).wf = true
theorem j92 {n : Int} (h : inI .u8 n) : 0 <= n /\ n < 256 := by
 simp [inI, Lit.wf, IntKind.min, IntKind.max, IntKind.signed, IntKind.bits] at h; omega
instance : Dat Int where
 ct := [.int .i64]
 ok n := inI .i64 n
 len := rfl
 of avs h := by
  simp only [q2y, qx7] at h; obtain ⟨_, _, rfl, ⟨n, rfl, hw⟩, rfl⟩ := h; exact ⟨n, rfl, hw⟩
instance : Dat Bool where
 ct := [.bool]
 ok _ := True
 len := rfl
 of avs h := by
  simp only [q2y, qx7] at h; obtain ⟨_, _, rfl, ⟨b, rfl⟩, rfl⟩ := h; exact ⟨b, rfl, trivial⟩
instance : Dat UInt8 where
 ct := [.int .u8]
 ok _ := True
 len := rfl
 of avs h := by
  simp only [q2y, qx7] at h; obtain ⟨_, _, rfl, ⟨n, rfl, hw⟩, rfl⟩ := h; exact ⟨toB n, by rw [z4b, j6j n (j92 hw)], trivial⟩
theorem zn9 {α : Type} [Dat α] : ∀ (rows : List (List AV)), (∀ r ∈ rows, q2y (Dat.ct α) r) -> ∃ l : List α, rows = enc l /\ ∀ x ∈ l, Dat.ok x
 | [], _ => ⟨[], rfl, by simp⟩
 | r :: rs, h => by
  obtain ⟨x, hx, ho⟩ := Dat.of r (h r (by simp)); obtain ⟨l, hl, hol⟩ := zn9 rs (fun r hr => h r (by simp [hr])); exact ⟨x :: l, by rw [hx, hl]; rfl, by simp; exact ⟨ho, hol⟩⟩
instance {α : Type} [Dat α] : Dat (List α) where
 ct := [.sl (Dat.ct α)]
 ok l := l.length <= maxLen /\ ∀ x ∈ l, Dat.ok x
 len := rfl
 of avs h := by
  simp only [q2y, qx7] at h; obtain ⟨_, _, rfl, ⟨rows, rfl, hl, hr⟩, rfl⟩ := h; obtain ⟨l, rfl, ho⟩ := zn9 (α := α) rows hr; exact ⟨l, by rw [qa4, Dat.len], by simpa [q11] using hl, ho⟩
def z6o (g : Bool) (avs : List AV) : AV := if g = true then .agg avs else oneOf avs
section
variable {H : Type} {enc : TypeId × Value -> H} {P : Program} {w : World} {base b0 : Nat} {spare : Nat -> Bool} {held : Bool} {β : Ghost} {ow : Nat -> Prop} {r : Reach} {t : TypeId} {v : Value} {d : DataW H} {ps : List MemPlace}
theorem zx6 (how : ∀ b, ¬ ow b) {cts : List CT} (hf : qr1 P 12 t = some cts) (hz : szT P t = cts.length) (ho : Value.okWide P w r b0 t v) (h : DataW.Trod enc P w base spare held t v d ps) :
  ∃ avs, q2y cts avs /\ rep w β 0 ow (z6o (q5c P t) avs) v := by
 obtain ⟨fuel, h⟩ := h; obtain ⟨avs, h1, h2, h3⟩ := qy1 (β := β) how 12 t cts hf hz fuel _ _ h; refine ⟨avs, h1, ?_⟩; have one : v.cells.toList = [v] -> q5c P t = false -> rep w β 0 ow (z6o (q5c P t) avs) v := fun hv ha => by
  rw [hv] at h2; rw [ha]
  match avs, h2 with
  | [a], h2 => simp only [x9] at h2; simpa [z6o, oneOf] using h2.1
  | [], h2 => simp only [x9] at h2
  | a :: b :: q, h2 => simp only [x9] at h2; exact h2.2.elim
 unfold qr1 at hf
 split at hf
 .
  rename_i hu
  obtain ⟨b, rfl⟩ := okWide_bool hu ho; exact one rfl (by simp [q5c, hu])
 .
  rename_i k hu
  obtain ⟨b, rfl⟩ := okWide_int hu ho; exact one rfl (by simp [q5c, hu])
 .
  rename_i hu
  obtain ⟨b, rfl⟩ := okWide_string hu ho; exact one rfl (by simp [q5c, hu])
 .
  rename_i e hu
  obtain ⟨a, len, cap, rfl⟩ := okWide_slice hu ho; exact one rfl (by simp [q5c, hu])
 .
  rename_i fs hu
  obtain ⟨cs, rfl, _⟩ := okWide_struct hu ho; rw [show q5c P t = true by simp [q5c, hu]]; simp only [z6o, if_true, rep]; exact ⟨cs.toList, by simp, h2⟩
 .
  rename_i n e hu
  have ho' := ho; unfold Value.okWide at ho'; rw [hu] at ho'; obtain ⟨cs, rfl, _⟩ := ho'; rw [show q5c P t = true by simp [q5c, hu]]; simp only [z6o, if_true, rep]; exact ⟨cs.toList, by simp, h2⟩
 . cases hf
theorem zk5 {α : Type} [Dat α] (how : ∀ b, ¬ ow b) (hf : qr1 P 12 t = some (Dat.ct α)) (hz : szT P t = (Dat.ct α).length) (ho : Value.okWide P w r b0 t v) (h : DataW.Trod enc P w base spare held t v d ps) :
  ∃ x : α, Dat.ok x /\ rep w β 0 ow (z6o (q5c P t) (Row.row x)) v := by
 obtain ⟨avs, h1, h2⟩ := zx6 (β := β) how hf hz ho h; obtain ⟨x, rfl, hx⟩ := Dat.of avs h1; exact ⟨x, hx, h2⟩
theorem j45 {k : IntKind} (hu : P.underlying t = some (.int k)) (ho : Value.okWide P w r b0 t v) (h : DataW.Trod enc P w base spare held t v d ps) :
  ∃ n : Int, inI k n /\ rep w β 0 ow (.v (.int k n)) v := by
 obtain ⟨fuel, h⟩ := h; obtain ⟨n, rfl⟩ := okWide_int hu ho; obtain ⟨m, h1, _, hw⟩ := DataW.trod_int hu h; simp [Value.cells] at h1; subst h1; exact ⟨n, hw, by simp only [rep]⟩
end
instance : Dat GStr where
 ct := [.str]
 ok x := x.s.length <= maxLen
 len := rfl
 of avs h := by
  simp only [q2y, qx7] at h; obtain ⟨_, _, rfl, ⟨s, rfl, hs⟩, rfl⟩ := h; exact ⟨⟨s.data.toList⟩, rfl, hs⟩
end
end Go.Proofs.YteibkihbdgphnaaGreat
