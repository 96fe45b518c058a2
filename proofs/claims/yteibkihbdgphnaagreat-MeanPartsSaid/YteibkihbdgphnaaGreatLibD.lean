/-
  Regions of open order in which operations turn something; plain functions that may give nothing, and loops. No condition beyond those that each theorem names.
-/
import Derived.Test.YteibkihbdgphnaaGreatLibC
import Derived.Test.YteibkihbdgphnaaGreatLibB
import Derived.Laws.Externs
import Derived.LoopN
set_option linter.unusedSimpArgs false
set_option linter.unusedVariables false
set_option linter.unusedSectionVars false
open Nat renaming le_refl -> Xa, lt_or_ge -> Xg, lt_of_lt_of_le -> Xi, lt_succ_self -> Xm, not_lt_zero -> X5, succ_ne_self -> Yd, le_trans -> Yg, mul_le_mul_right -> Yj, add_sub_cancel_left -> Yq, zero_le -> Yr, le_succ_of_le -> Yz, le_succ -> Y0
open Array renaming getD_eq_getD_getElem? -> Xb, getElem?_eq_getElem -> Xh, mem_toList_iff -> Xl, getElem?_setIfInBounds -> Xq, getElem?_eq_some_iff -> Xw, mem_append -> Xy, getElem?_replicate -> X9, replicate -> Yi
open Bool renaming and_eq_true -> Xc, or_eq_true -> Xu, not_eq_true' -> Yb
open Option renaming some.injEq -> Xd, getD_some -> Xo, some.inj -> Yh, map_some -> Y3
open List renaming all_eq_true -> Xe, mem_cons -> Xf, mem_append -> Xj, mem_append_right -> Xk, mem_map -> Xn, mem_append_left -> Xp, range -> Xr, map_congr_left -> Xs, length_append -> Xt, map_cons -> Xv, getD_eq_getElem?_getD -> Xx, getElem?_eq_getElem -> Xz, take_succ_eq_append_getElem -> X0, append_assoc -> X1, mem_range -> X2, getElem?_append_right -> X4, getElem?_eq_some_iff -> X6, length_map -> X7, getElem?_append_left -> X8, length_cons -> Yc, getElem_mem -> Ye, nodup_cons -> Yf, getD_cons_succ -> Yk, mem_singleton -> Yl, findIdx?_eq_none_iff -> Yn, cons_append -> Yo, length_take -> Yp, contains_iff_mem -> Ys, take_append_drop -> Yt, all_cons -> Yu, getD_cons_zero -> Yv, mem_map_of_mem -> Yw, getElem?_take -> Yx, findIdx?_cons -> Yy, nodup_range -> Y1, take_length -> Y2
open Prod renaming mk.injEq -> X3
open Int renaming eq_ofNat_of_zero_le -> Ya, toNat_natCast -> Ym
namespace Go.Proofs.YteibkihbdgphnaaGreat
section
open Go Go.RowKit
def q47 (tids : List Nat) : Hp -> Hp
 | [] => []
 | (k, o) :: r => if k ∈ tids then q47 tids r else (k, o) :: q47 tids r
theorem z3e {tids : List Nat} {id : Nat} (h : id ∉ tids) : ∀ (hp : Hp), q0e (q47 tids hp) id = q0e hp id
 | [] => rfl
 | (k, o) :: r => by
  unfold q47
  split
  .
   rename_i hk
   rw [z3e h r]; have : k ≠ id := fun e => h (by rw [<- e]; exact hk); simp only [q0e, if_neg this]
  . simp only [q0e, z3e h r]
def j60 (P : Program) (nb : Nat) (hp : Hp) (nx : Nat) (f : FuncId) (args : List AV) (K : Hp -> Nat -> AV -> Prop) : Prop :=
 ∃ (H : Hp) (N : Nat) (R : AV), (∀ (s : St) (K' : St -> AV -> Prop), s.nb = nb -> s.hp = hp -> s.nx = nx -> (s.hp.map (·.1)).Nodup -> K' { s with hp := H, nx := N } R -> q8l P s f args K') /\ K H N R
def zn5 (tids : List Nat) (hp : Hp) (K : St -> Prop) (s' : St) : Prop := q47 tids s'.hp = q47 tids hp /\ K s'
def j2r (dst : Option Nat) (s : St) (K : St -> Prop) (hp' : Hp) (nx' : Nat) (r : AV) : Prop := K (({ s with hp := hp', nx := nx' } : St).put dst r)
def z5r (P : Program) (tids : List Nat) (o : Oper) (s : St) (K : St -> Prop) : Prop :=
 match o.op with
 | .call c => match c.callee, c.args.toList, c.argTypes.toList with
  | .value fo, args, _ => match (u6 s.env fo).st with
   | .clo f caps => (True /\ (u6 s.env fo).need /\ needs (args.map (u6 s.env))) /\ j60 P s.nb s.hp s.nx f ((args.map fun x => (u6 s.env x).st) ++ caps) (j2r o.dst s (zn5 tids s.hp K))
   | _ => False
  | _, _, _ => vcX P o s (zn5 tids s.hp K)
 | .binOp .. => False
 | _ => vcX P o s (zn5 tids s.hp K)
def zn4 (P : Program) (tids : List Nat) (o : Oper) (s : St) (K : St -> Prop) (g : Bool) : Prop := (g = true -> z5r P tids o s K) /\ (g = false -> K (s.put o.dst (.v undef)))
theorem j99 (P : Program) (tids : List Nat) (o : Oper) (s : St) (K : St -> Prop) : zn4 P tids o s K true = z5r P tids o s K := by simp [zn4]
theorem j9a (P : Program) (tids : List Nat) (o : Oper) (s : St) (K : St -> Prop) : zn4 P tids o s K false = K (s.put o.dst (.v undef)) := by simp [zn4]
def zn3 (P : Program) (ops : Array Oper) (tids : List Nat) (o : Oper) (s : St) (K : St -> Prop) : Prop :=
 match o.guard with
 | none => z5r P tids o s K
 | some (j, want) => match q1n ops j with
  | some d => match qw1 (q0u s.env d) want with
   | some g => zn4 P tids o s K g
   | none => False
  | none => False
section
variable {P : Program} {C : Ctx P} {s : St} {a : Act} {w : World} {β : Ghost}
theorem j6f {o : Oper} {s : St} {K : St -> Prop} (hc : ∀ c f, o.op = .call c -> c.callee ≠ .value f) (hb : ∀ a b c d e, o.op ≠ .binOp a b c d e) (h : vcX P o s K) :
  ∃ H N R, K (({ s with hp := H, nx := N } : St).put o.dst R) /\ ∀ env' : List (Nat × AV), (∀ x ∈ o.op.operands, u6 env' x = u6 s.env x) -> ∀ K' : St -> Prop, K' (({ s with env := env', hp := H, nx := N } : St).put o.dst R) -> vcX P o { s with env := env' } K' := by
 unfold vcX at h ⊢
 split at h
 .
  split at h
  . exact ⟨_, _, _, h, fun env' hev K' h' => by simp only [*]⟩
  . exact ⟨_, _, _, h, fun env' hev K' h' => by simp only [*]⟩
  . exact h.elim
 .
  rename_i e x ho
  split at h
  .
   rename_i cs hcs
   exact ⟨_, _, _, h.2, fun env' hev K' h' => by
    have hx : u6 env' x = u6 s.env x := hev x (by rw [ho]; simp [Op.operands]); simp only [ho, hx, hcs]; exact ⟨h.1, h'⟩⟩
  .
   rename_i cs hno hcs
   exact ⟨_, _, _, h.2, fun env' hev K' h' => by
    have hx : u6 env' x = u6 s.env x := hev x (by rw [ho]; simp [Op.operands]); simp only [ho, hx, hcs]; exact ⟨h.1, h'⟩⟩
  . exact h.elim
 .
  rename_i t x y ho
  split at h
  .
   rename_i id off ys e1 e2
   split at h
   .
    rename_i cs hg
    exact ⟨_, _, _, h.2, fun env' hev K' h' => by
     have hx : u6 env' x = u6 s.env x := hev x (by rw [ho]; simp [Op.operands]); have hy : u6 env' y = u6 s.env y := hev y (by rw [ho]; simp [Op.operands]); simp only [ho, hx, hy, e1, e2, hg]; exact ⟨h.1, h'⟩⟩
   .
    rename_i k cs hg
    split at h
    .
     rename_i n hn
     exact ⟨_, _, _, h.2, fun env' hev K' h' => by
      have hx : u6 env' x = u6 s.env x := hev x (by rw [ho]; simp [Op.operands]); have hy : u6 env' y = u6 s.env y := hev y (by rw [ho]; simp [Op.operands]); simp only [ho, hx, hy, e1, e2, hg, hn]; exact ⟨h.1, h'⟩⟩
    . exact h.elim
   . exact h.elim
  .
   rename_i id sz i off ys e1 e2
   split at h
   .
    rename_i sz' xs hg
    exact ⟨_, _, _, h.2, fun env' hev K' h' => by
     have hx : u6 env' x = u6 s.env x := hev x (by rw [ho]; simp [Op.operands]); have hy : u6 env' y = u6 s.env y := hev y (by rw [ho]; simp [Op.operands]); simp only [ho, hx, hy, e1, e2, hg]; exact ⟨h.1, h'⟩⟩
   .
    rename_i k cs hg
    split at h
    .
     rename_i n hn
     exact ⟨_, _, _, h.2, fun env' hev K' h' => by
      have hx : u6 env' x = u6 s.env x := hev x (by rw [ho]; simp [Op.operands]); have hy : u6 env' y = u6 s.env y := hev y (by rw [ho]; simp [Op.operands]); simp only [ho, hx, hy, e1, e2, hg, hn]; exact ⟨h.1, h'⟩⟩
    . exact h.elim
   . exact h.elim
  . exact h.elim
 .
  rename_i t n parts ho
  split at h
  .
   rename_i e i0 o0 rs he hr
   split at h
   .
    rename_i zs hz
    exact ⟨_, _, _, h.2, fun env' hev K' h' => by
     have hp : ∀ p ∈ parts.toList, u6 env' p.2 = u6 s.env p.2 := fun p hp => hev p.2 (by rw [ho]; simp only [Op.operands]; simp; exact ⟨p.1, by simpa using hp⟩); have e1 : (parts.toList.map fun p : Nat × Operand => (u6 env' p.2).st) = parts.toList.map fun p => (u6 s.env p.2).st := Xs fun p hx => by rw [hp p hx]
     have e2 : (parts.toList.map fun p : Nat × Operand => u6 env' p.2) = parts.toList.map fun p => u6 s.env p.2 := Xs fun p hx => hp p hx; simp only [ho, e1, e2, he, hr, hz]; exact ⟨h.1, h'⟩⟩
   . exact h.elim
  .
   rename_i e rs _ he hr
   split at h
   .
    rename_i zs hz
    exact ⟨_, _, _, h.2, fun env' hev K' h' => by
     have hp : ∀ p ∈ parts.toList, u6 env' p.2 = u6 s.env p.2 := fun p hp => hev p.2 (by rw [ho]; simp only [Op.operands]; simp; exact ⟨p.1, by simpa using hp⟩); have e1 : (parts.toList.map fun p : Nat × Operand => (u6 env' p.2).st) = parts.toList.map fun p => (u6 s.env p.2).st := Xs fun p hx => by rw [hp p hx]
     have e2 : (parts.toList.map fun p : Nat × Operand => u6 env' p.2) = parts.toList.map fun p => u6 s.env p.2 := Xs fun p hx => hp p hx; simp only [ho, e1, e2, he, hr, hz]; exact ⟨h.1, h'⟩⟩
   . exact h.elim
  . exact h.elim
 .
  rename_i t l c ho
  split at h
  .
   rename_i k n k' m e hl hc' he
   split at h
   .
    rename_i zs hz
    exact ⟨_, _, _, h.2, fun env' hev K' h' => by
     have hx : u6 env' l = u6 s.env l := hev l (by rw [ho]; simp [Op.operands]); have hy : u6 env' c = u6 s.env c := hev c (by rw [ho]; simp [Op.operands]); simp only [ho, hx, hy, hl, hc', he, hz]; exact ⟨h.1, h'⟩⟩
   . exact h.elim
  . exact h.elim
 .
  rename_i src dst x ho
  split at h
  .
   rename_i id sz off len e hx' he
   split at h
   .
    rename_i sz' xs hg
    exact ⟨_, _, _, h.2, fun env' hev K' h' => by
     have hx : u6 env' x = u6 s.env x := hev x (by rw [ho]; simp [Op.operands]); simp only [ho, hx, hx', he, hg]; exact ⟨h.1, h'⟩⟩
   . exact h.elim
  . exact h.elim
 .
  rename_i t x lo hi mx ho
  split at h
  .
   rename_i c r hr
   exact ⟨s.hp, s.nx, _, h.2, fun env' hev K' h' => by
    have h1 : u6 env' x = u6 s.env x := hev x (by rw [ho]; simp [Op.operands]); have h2 : u6 env' lo = u6 s.env lo := hev lo (by rw [ho]; simp [Op.operands]); have h3 : u6 env' hi = u6 s.env hi := hev hi (by rw [ho]; simp [Op.operands]); have h4 : u6 env' mx = u6 s.env mx := hev mx (by rw [ho]; simp [Op.operands]); simp only [ho, h1, h2, h3, h4, hr]; exact ⟨h.1, h'⟩⟩
  . exact h.elim
 . rename_i ho; exact absurd ho (hb _ _ _ _ _)
 . rename_i ho; exact absurd ho (hb _ _ _ _ _)
 .
  obtain ⟨H, N, R, hk, hw⟩ := h; exact ⟨H, N, R, hk, fun env' hev K' h' => by
   exact ⟨H, N, R, h', fun env2 hev2 K2 h2 => hw env2 (fun x hx => (hev2 x hx).trans (hev x hx)) K2 h2⟩⟩
 .
  obtain ⟨H, N, R, hk, hw⟩ := h; exact ⟨H, N, R, hk, fun env' hev K' h' => by
   exact ⟨H, N, R, h', fun env2 hev2 K2 h2 => hw env2 (fun x hx => (hev2 x hx).trans (hev x hx)) K2 h2⟩⟩
 .
  rename_i cl ho
  split at h
  .
   rename_i x y t t' e1 e2 e3
   split at h
   .
    rename_i e szx xs ids cb szy ys cs he hb' hs
    split at h
    .
     rename_i zs hz
     exact ⟨_, _, _, h.2, fun env' hev K' h' => by
      have ha : ∀ x ∈ cl.args.toList, u6 env' x = u6 s.env x := fun x hx => hev x (by rw [ho]; simp only [Op.operands, Call.operands]; exact Xy.2 (.inr (Xl.1 hx))); rw [e2] at ha; have hx := ha x (by simp); have hy := ha y (by simp); simp only [ho, e1, e2, e3, hx, hy, he, hb', hs, hz]; exact ⟨h.1, h'⟩⟩
    . exact h.elim
   .
    rename_i he hb' hs
    obtain ⟨H, N, R, hk, hw⟩ := h; exact ⟨H, N, R, hk, fun env' hev K' h' => by
      have ha : ∀ x ∈ cl.args.toList, u6 env' x = u6 s.env x := fun x hx => hev x (by rw [ho]; simp only [Op.operands, Call.operands]; exact Xy.2 (.inr (Xl.1 hx))); rw [e2] at ha; have hx := ha x (by simp); have hy := ha y (by simp); simp only [ho, e1, e2, e3, hx, hy, he, hb', hs]; exact ⟨H, N, R, h', fun env2 hev2 K2 h2 => hw env2 (fun x hx => (hev2 x hx).trans (hev x hx)) K2 h2⟩⟩
   . exact h.elim
  .
   rename_i x t e1 e2 e3
   split at h
   .
    rename_i id sz off len e hx0 he
    split at h
    .
     rename_i sz' xs zs hg hz
     exact ⟨_, s.nx, _, h.2, fun env' hev K' h' => by
      have ha : ∀ x ∈ cl.args.toList, u6 env' x = u6 s.env x := fun x hx => hev x (by rw [ho]; simp only [Op.operands, Call.operands]; exact Xy.2 (.inr (Xl.1 hx))); rw [e2] at ha; have hx := ha x (by simp); simp only [ho, e1, e2, e3, hx, hx0, he, hg, hz]; exact ⟨h.1, h'⟩⟩
    . exact h.elim
   . exact h.elim
  .
   rename_i x y t t' e1 e2 e3
   split at h
   .
    rename_i id sz off len e szy ys cs hx0 he hs
    split at h
    .
     rename_i sz' xs hg
     exact ⟨_, s.nx, _, h.2, fun env' hev K' h' => by
      have ha : ∀ x ∈ cl.args.toList, u6 env' x = u6 s.env x := fun x hx => hev x (by rw [ho]; simp only [Op.operands, Call.operands]; exact Xy.2 (.inr (Xl.1 hx))); rw [e2] at ha; have hx := ha x (by simp); have hy := ha y (by simp); simp only [ho, e1, e2, e3, hx, hy, hx0, he, hs, hg]; exact ⟨h.1, h'⟩⟩
    . exact h.elim
   .
    rename_i id off len e szy ys cs hx0 he hs
    split at h
    .
     rename_i xs hg
     exact ⟨_, s.nx, _, h.2, fun env' hev K' h' => by
      have ha : ∀ x ∈ cl.args.toList, u6 env' x = u6 s.env x := fun x hx => hev x (by rw [ho]; simp only [Op.operands, Call.operands]; exact Xy.2 (.inr (Xl.1 hx))); rw [e2] at ha; have hx := ha x (by simp); have hy := ha y (by simp); simp only [ho, e1, e2, e3, hx, hy, hx0, he, hs, hg]; exact ⟨h.1, h'⟩⟩
    . exact h.elim
   . exact h.elim
  .
   obtain ⟨H, N, R, hk, hw⟩ := h; exact ⟨H, N, R, hk, fun env' hev K' h' => by
    exact ⟨H, N, R, h', fun env2 hev2 K2 h2 => hw env2 (fun x hx => (hev2 x hx).trans (hev x hx)) K2 h2⟩⟩
  . exact absurd (by assumption) (hc _ _ ho)
  . exact h.elim
 . exact h.elim
theorem zq3 {nb nx nx' nt : Nat} {hp hp' : Hp} {E : Nat -> AV} {o : Oper} {r : AV} (hE : ∀ t, nt <= t -> E t = .junk)
  (h : ∀ (env : List (Nat × AV)), (∀ t, q0u env t = E t) -> ∀ (a : Act) (w : World) (β : Ghost), Rel C ⟨nb, env, hp, nx, nt⟩ a w β -> ∀ (K : Act -> World -> Prop) (Q : Exit -> Act -> World -> Prop),
   (∀ a' w', RK C (fun s' => s' = (⟨nb, env, hp', nx', nt⟩ : St).put o.dst r) a' w' -> K a' w') -> o.wp P a w K Q) : EffAt P C nb nx nx' nt hp hp' E o r := by
 intro a w β hR hEr K Q hK; have hget : ∀ t, q0u ((Xr nt).map fun t => (t, E t)) t = E t := by
  have key : ∀ (l : List Nat) (t : Nat), q0u (l.map fun t => (t, E t)) t = if t ∈ l then E t else .junk := by
   intro l
   induction l with
   | nil => intro t; rfl
   | cons x l ih =>
    intro t; simp only [Xv, q0u, ih, Xf]
    by_cases hx : x = t
    . subst hx; simp
    . simp [hx, Ne.symm hx]
  intro t; rw [key]
  split
  . rfl
  . rename_i ht; rw [hE t (by simpa using ht)]
 have hR' : Rel C ⟨nb, (Xr nt).map fun t => (t, E t), hp, nx, nt⟩ a w β :=
  { df := hR.df, nt := hR.nt, ntc := hR.ntc, nb := hR.nb, alt := hR.alt, gs := hR.gs, hp := hR.hp, ext := hR.ext, env := fun t => by rw [hget]; exact hEr t }
 refine h _ hget a w β hR' K Q fun a' w' hk => ?_; obtain ⟨s', β', h1, rfl⟩ := hk; have e1 : ((⟨nb, (Xr nt).map fun t => (t, E t), hp', nx', nt⟩ : St).put o.dst r).hp = hp' := by cases o.dst <;> rfl
 have e2 : ((⟨nb, (Xr nt).map fun t => (t, E t), hp', nx', nt⟩ : St).put o.dst r).nx = nx' := by cases o.dst <;> rfl
 have e3 : ((⟨nb, (Xr nt).map fun t => (t, E t), hp', nx', nt⟩ : St).put o.dst r).nb = nb := by cases o.dst <;> rfl
 have e4 : ((⟨nb, (Xr nt).map fun t => (t, E t), hp', nx', nt⟩ : St).put o.dst r).nt = nt := by cases o.dst <;> rfl
 have h2 := h1.hp; have h3 := h1.ext; have h4 := h1.env; rw [e1, e2] at h2 h3; refine hK a' w' β' { df := h1.df, nt := by rw [h1.nt, e4], ntc := by rw [<- h1.ntc, e4], nb := by rw [h1.nb, e3], alt := h1.alt, gs := h1.gs, hp := h2, ext := h3, env := fun t => by simp only [q0u, rep] } fun t => ?_; have h5 := h4 t; rw [e1, e2] at h5; have e5 : q0u ((⟨nb, (Xr nt).map fun t => (t, E t), hp', nx', nt⟩ : St).put o.dst r).env t = q4u E o.dst r t := by
  cases hd : o.dst with
  | none => simp only [St.put, q4u, hget]
  | some d => simp only [St.put, q4u, q0u, hget]
 rw [e5] at h5; exact h5
theorem z0e {s : St} {d : Option Nat} {x : AV} : (s.put d x).hp = s.hp /\ (s.put d x).nx = s.nx /\ (s.put d x).nb = s.nb /\ (s.put d x).nt = s.nt := by cases d <;> exact ⟨rfl, rfl, rfl, rfl⟩
theorem j4e {ops : Array Oper} {o : Oper} {E : Nat -> AV} {env : List (Nat × AV)} (h : ∀ t ∈ o.looksAt ops, E t = q0u env t) : ∀ x ∈ o.op.operands, evF E x = u6 env x := fun x hx => by
 cases x with
 | tmp t => exact h t (by unfold Oper.looksAt; exact Xp _ (List.mem_filterMap.2 ⟨.tmp t, Xl.2 hx, rfl⟩))
 | _ => rfl
theorem z96 {ops : Array Oper} {tids : List Nat} {o : Oper} {s : St} {K : St -> Prop} (h : z5r P tids o s K) (hd : dok s.nt o.dst = true) :
  ∃ H N R, q47 tids H = q47 tids s.hp /\ K (({ s with hp := H, nx := N } : St).put o.dst R) /\
   ∀ (C : Ctx P) (E : Nat -> AV), (∀ t, s.nt <= t -> E t = .junk) -> (∀ t ∈ o.looksAt ops, E t = q0u s.env t) -> EffAt P C s.nb s.nx N s.nt s.hp H E o R := by
 unfold z5r at h; have hops : ∀ {E : Nat -> AV} {env : List (Nat × AV)}, (∀ t ∈ o.looksAt ops, E t = q0u s.env t) -> (∀ t, q0u env t = E t) -> ∀ x ∈ o.op.operands, u6 env x = u6 s.env x := fun {E env} hE hget x hx => by
  have := j4e hE x hx; rw [<- this]
  cases x with
  | tmp t => exact hget t
  | _ => rfl
 have plain : (∀ c f, o.op = .call c -> c.callee ≠ .value f) -> (∀ a b c d e, o.op ≠ .binOp a b c d e) -> vcX P o s (zn5 tids s.hp K) -> ∃ H N R, q47 tids H = q47 tids s.hp /\ K (({ s with hp := H, nx := N } : St).put o.dst R) /\
   ∀ (C : Ctx P) (E : Nat -> AV), (∀ t, s.nt <= t -> E t = .junk) -> (∀ t ∈ o.looksAt ops, E t = q0u s.env t) -> EffAt P C s.nb s.nx N s.nt s.hp H E o R := by
  intro hc hb hx; obtain ⟨H0, N0, R0, ⟨g1, g2⟩, hall⟩ := j6f hc hb hx; refine ⟨H0, N0, R0, by rw [z0e.1] at g1; exact g1, g2, fun C E hj hE => zq3 hj fun env hget a w β hR K' Q hK' => ?_⟩; have := zb3 (Q := Q) hR hd (hall env (hops hE hget) (fun s' => s' = (⟨s.nb, env, H0, N0, s.nt⟩ : St).put o.dst R0) rfl); exact Oper.wp_mono (fun a' w' hk => hK' a' w' hk) this
 split at h
 .
  rename_i cl ho
  split at h
  .
   rename_i fo e1
   split at h
   .
    rename_i f caps hf
    obtain ⟨⟨c1, c2, c3⟩, H, N, r, hM, g1, g2⟩ := h; refine ⟨_, N, r, by rw [z0e.1] at g1; exact g1, g2, fun C E hj hE => zq3 hj fun env hget a w β hR K' Q hK' => ?_⟩; have hev := hops hE hget; have hfo : u6 env fo = u6 s.env fo := hev fo (by rw [ho]; simp [Op.operands, Call.operands, e1]); have ha : ∀ x ∈ cl.args.toList, u6 env x = u6 s.env x := fun x hx => hev x (by rw [ho]; simp only [Op.operands, Call.operands]; exact Xy.2 (.inr (Xl.1 hx))); have a1 : cl.args.toList.map (u6 env) = cl.args.toList.map (u6 s.env) := Xs ha; have a2 : (cl.args.toList.map fun x => (u6 env x).st) = cl.args.toList.map fun x => (u6 s.env x).st := Xs fun x hx => by rw [ha x hx]
    refine Oper.wp_mono (fun a' w' hk => hK' a' w' hk) (zs5 (Q := Q) (K := fun s' => s' = (⟨s.nb, env, H, N, s.nt⟩ : St).put o.dst r) hR ho e1 (by rw [hfo]; exact hf) (by rw [hfo]; exact c2) (by rw [a1]; exact c3) hd ?_); rw [a2]; exact hM _ _ rfl rfl rfl hR.hp.nd rfl
   . exact h.elim
  .
   rename_i hne
   exact plain (fun c f hc hf => by rw [ho] at hc; cases hc; exact hne f hf) (fun a b c d e hb => by rw [ho] at hb; cases hb) h
 . exact h.elim
 .
  rename_i h1 h2
  exact plain (fun c f hc hf => h1 c hc) (fun a b c d e hb => h2 _ _ _ _ _ hb) h
theorem j2m {ops : Array Oper} {tids : List Nat} {o : Oper} {s : St} {K : St -> Prop} (h : zn3 P ops tids o s K) (hd : dok s.nt o.dst = true) :
  ∃ H N R, q47 tids H = q47 tids s.hp /\ K (({ s with hp := H, nx := N } : St).put o.dst R) /\
   ∀ (C : Ctx P) (E : Nat -> AV), (∀ t, s.nt <= t -> E t = .junk) -> (∀ t ∈ o.looksAt ops, E t = q0u s.env t) -> j0q P C ops s.nb s.nx N s.nt s.hp H E o R := by
 unfold zn3 at h
 split at h
 .
  rename_i hg
  obtain ⟨H, N, R, g1, g2, g3⟩ := z96 (ops := ops) h hd; exact ⟨H, N, R, g1, g2, fun C E hj hE => (g3 C E hj hE).g hg⟩
 .
  rename_i j want hg
  split at h
  .
   rename_i d hdj
   have hlk : d ∈ o.looksAt ops := by
    unfold Oper.looksAt; refine Xk _ ?_; rw [hg]; unfold q1n at hdj; simp [hdj]
   split at h
   .
    rename_i gb hgb
    cases gb with
    | true =>
     obtain ⟨H, N, R, g1, g2, g3⟩ := z96 (ops := ops) (h.1 rfl) hd; refine ⟨H, N, R, g1, g2, fun C E hj hE a w β hR hEr K' Q hK => ?_⟩; have hw := qh7 (ops := ops) hg hdj (by rw [<- hE d hlk] at hgb; exact hgb) (hEr d); rw [hw, if_pos rfl]; exact g3 C E hj hE a w β hR hEr K' Q hK
    | false =>
     refine ⟨s.hp, s.nx, .v undef, rfl, ?_, fun C E hj hE a w β hR hEr K' Q hK => ?_⟩
     .
      have e : ({ s with hp := s.hp, nx := s.nx } : St).put o.dst (.v undef) = s.put o.dst (.v undef) := by cases o.dst <;> rfl
      rw [e]; exact h.2 rfl
     .
      have hw := qh7 (ops := ops) hg hdj (by rw [<- hE d hlk] at hgb; exact hgb) (hEr d); rw [hw, if_neg (by simp)]; have hz : (a.put o.dst undef).tmps.size = a.tmps.size := by cases hdd : o.dst <;> simp [Act.put]
      have hf : (a.put o.dst undef).defers = a.defers := by cases hdd : o.dst <;> rfl
      refine hK _ _ β { df := by rw [hf]; exact hR.df, nt := by rw [hz]; exact hR.nt, ntc := hR.ntc, nb := hR.nb, alt := hR.alt, gs := hR.gs, hp := hR.hp, ext := hR.ext, env := fun t => by simp only [q0u, rep] } fun t => ?_
      cases hdd : o.dst with
      | none => simp only [q4u, Act.put]; exact hEr t
      | some d' =>
       simp only [q4u, Act.put]; have hlt : d' < a.tmps.size := by
        rw [hdd] at hd; simp only [dok, decide_eq_true_eq] at hd; rw [hR.nt]; exact hd
       rw [z0l _ _ _ _ _ hlt]
       split
       . simp only [rep]
       . exact hEr t
   . exact h.elim
  . exact h.elim
end
end
section
open Go Go.RowKit
def qz0 (tids : List Nat) (ev : Operand -> AV) : Op -> Prop
 | .load _ x => match (ev x).st with
  | .ptr id _ => id ∉ tids
  | .apt id _ _ _ => id ∉ tids
  | _ => True
 | .lookup _ m _ _ => match (ev m).st with
  | .mp id => id ∉ tids
  | _ => True
 | _ => True
section
variable {P : Program} {C : Ctx P} {s : St} {a : Act} {w : World} {β : Ghost}
theorem j79 {tids : List Nat} {hp hp' : Hp} {ev : Operand -> AV} {op : Op} (hl : qz0 tids ev op) (ho : q47 tids hp = q47 tids hp') : qh8 P hp ev op = qh8 P hp' ev op := by
 have hg : ∀ id, id ∉ tids -> q0e hp id = q0e hp' id := fun id hid => by rw [<- z3e hid hp, ho, z3e hid hp']
 unfold qh8
 cases op
 case load t x =>
  simp only [qz0] at hl; simp only [fop]; unfold z5l
  cases hx : (ev x).st <;> rw [hx] at hl <;> simp only at hl ⊢
  . rw [hg _ hl]
  . rw [hg _ hl]
 case makeFunc f _ _ => cases f <;> rfl
 case slice _ _ _ _ m => cases m <;> rfl
 case lookup t m k c =>
  simp only [qz0] at hl
  cases c
  .
   simp only [fop]; unfold z8n
   cases hx : (ev m).st <;> rw [hx] at hl <;> simp only at hl ⊢
   cases z0j (ev k).st with
   | none => rfl
   | some kv => cases P.underlying t with
    | none => rfl
    | some d => cases d <;> first
     | rfl
     | simp only [hg _ hl]
  . rfl
 all_goals rfl
theorem j62 {tids : List Nat} {hp hp' : Hp} {nx : Nat} {ev : Operand -> AV} {op : Op} {r : AV} (hl : qz0 tids ev op) (ho : q47 tids hp = q47 tids hp') (h : QV P hp nx ev op r) : QV P hp' nx ev op r := by
 unfold QV at h ⊢; rw [<- j79 hl ho]; exact h
theorem j63 {ops : Array Oper} {tids : List Nat} {hp hp' : Hp} {nx : Nat} {E : Nat -> AV} {o : Oper} {r : AV} (hl : qz0 tids (evF E) o.op) (ho : q47 tids hp = q47 tids hp') (h : QG P hp nx ops E o r) : QG P hp' nx ops E o r := by
 unfold QG at h ⊢
 split at h
 . exact j62 hl ho h
 .
  split at h
  .
   split at h
   . obtain ⟨r0, h1, h2⟩ := h; exact ⟨r0, fun hg => j62 hl ho (h1 hg), h2⟩
   . exact h.elim
  . exact h.elim
def qq2 (P : Program) (ops : Array Oper) (T : Nat -> List Nat) (loose effs : List Nat) (nb nt : Nat) (env : List (Nat × AV)) (r : Nat -> AV) (hs : Nat -> Hp) (ns : Nat -> Nat) (j : Nat) (o : Oper) : Prop :=
 if j ∈ effs then q47 (T j) (hs (j + 1)) = q47 (T j) (hs j) /\ ∀ (C : Ctx P) (E : Nat -> AV), (∀ t, nt <= t -> E t = .junk) -> (∀ t ∈ o.looksAt ops, E t = q0u env t) -> j0q P C ops nb (ns j) (ns (j + 1)) nt (hs j) (hs (j + 1)) E o (r j)
 else hs (j + 1) = hs j /\ ns (j + 1) = ns j /\ QG P (hs j) 0 ops (q0u env) o (r j) /\ (j ∈ loose -> qz0 (T j) (u6 env) o.op)
theorem zj9 {s : St} {H : Hp} {N : Nat} {d : Option Nat} {x : AV} : ({ s with hp := H, nx := N } : St).put d x = { s.put d x with hp := H, nx := N } := by cases d <;> rfl
theorem z6t (r : Nat -> AV) : ∀ (l : List Oper) (k : Nat) (s : St) (H : Hp) (N : Nat), q1j l r k { s with hp := H, nx := N } = { q1j l r k s with hp := H, nx := N }
 | [], _, _, _, _ => rfl
 | o :: l, k, s, H, N => by
  show q1j l r (k + 1) (({ s with hp := H, nx := N } : St).put o.dst (r k)) = { q1j l r (k + 1) (s.put o.dst (r k)) with hp := H, nx := N }
  rw [zj9, z6t r l (k + 1)]
def q1q (effs : List Nat) (listed : Array Bool) : Nat -> Nat
 | 0 => 0
 | n + 1 => if n ∈ effs /\ listed.getD n false = true then n + 1 else q1q effs listed n
theorem zt8 {effs : List Nat} {listed : Array Bool} {α : Type} {f : Nat -> α} {j : Nat} (hq : ∀ i, i < j -> i ∉ effs -> f (i + 1) = f i) (hl : ∀ i, i < j -> i ∈ effs -> listed.getD i false = true) : ∀ n, n <= j -> f (q1q effs listed n) = f n
 | 0, _ => rfl
 | n + 1, h => by
  unfold q1q
  split
  . rfl
  .
   rename_i hn
   have : n ∉ effs := fun hx => hn ⟨hx, hl n (by omega) hx⟩; rw [zt8 hq hl n (by omega), hq n (by omega) this]
theorem qh2 {effs : List Nat} {listed : Array Bool} {j : Nat} (hu : ∀ i, j <= i -> i ∈ effs -> listed.getD i false = false) : ∀ n, j <= n -> q1q effs listed n = q1q effs listed j
  | 0, h => by have : j = 0 := by omega
               subst this; rfl
  | n + 1, h => by
    rcases Xg n j with hlt | hge
    . have : j = n + 1 := by omega
      subst this; rfl
    . have : q1q effs listed (n + 1) = q1q effs listed n := by
        rw [q1q, if_neg (fun hx => by rw [hu n hge hx.1] at hx; cases hx.2)]
      rw [this, qh2 hu n hge]
theorem z5j {effs : List Nat} {listed : Array Bool} : ∀ n, q1q effs listed n <= n
 | 0 => Xa _
 | n + 1 => by
  unfold q1q
  split
  . exact Xa _
  . exact Yz (z5j n)
end
def z8o (n : Nat) (env : List (Nat × AV)) : Bool := env.all fun p => decide (p.1 < n)
theorem z1t {n : Nat} : ∀ {env : List (Nat × AV)}, z8o n env = true -> ∀ t, n <= t -> q0u env t = .junk
 | [], _, _, _ => rfl
 | (k, x) :: r, h, t, ht => by
  simp only [z8o, Yu, Xc, decide_eq_true_eq] at h; simp only [q0u]; rw [if_neg (by omega)]; exact z1t (env := r) h.2 t ht
end
section
open Go Go.RowKit
def q08 {P : Program} (C : Ctx P) (B : Nat -> Prop) : Ctx P := { C with A := fun b => C.A b \/ B b }
section
variable {P : Program} {C : Ctx P} {a : Act} {w : World} {β : Ghost} {nb nx nt : Nat} {hp : Hp}
theorem z8c {C : Ctx P} {B : Nat -> Prop} (h : ∀ b, ¬ B b) : q08 C B = C := by
 cases C; simp only [q08]; congr; funext b; apply propext; exact ⟨fun hx => hx.elim id (fun hb => absurd hb (h b)), .inl⟩
theorem z1p {C : Ctx P} {B B' : Nat -> Prop} (h : ∀ b, B b ↔ B' b) : q08 C B = q08 C B' := by
 have : B = B' := funext fun b => propext (h b); rw [this]
theorem Rel.release {B B' : Nat -> Prop} {b0 : Nat} {zs : List Value} {e : TypeId} (hB : ∀ b, B' b ↔ (B b \/ b = b0)) (h : Rel (q08 C B') ⟨nb, [], hp, nx, nt⟩ a w β) (hw : w.heap[b0]? = some (.cells ⟨zs⟩ e (0, 0))) (h0 : C.w0.heap.size <= b0) (hnB : ¬ B b0) (hnA : ¬ C.A b0) :
    Rel (q08 C B) ⟨nb, [], (nx, .box (zs.map AV.v)) :: hp, nx + 1, nt⟩ a w (upd β nx (some (b0, 0))) /\
    (∀ x u, rep w β nx (own β hp (q08 C B').A) x u -> rep w (upd β nx (some (b0, 0))) (nx + 1) (own (upd β nx (some (b0, 0))) ((nx, .box (zs.map AV.v)) :: hp) (q08 C B).A) x u) /\
    rep w (upd β nx (some (b0, 0))) (nx + 1) (own (upd β nx (some (b0, 0))) ((nx, .box (zs.map AV.v)) :: hp) (q08 C B).A) (.ptr nx 0) (.pointer (some ⟨b0, 0, none⟩)) := by
  have hlt : ∀ p ∈ hp, p.1 < nx := h.hp.lt; have hbb : (q08 C B').A b0 := .inr ((hB b0).2 (.inr rfl)); have hown : ∀ b, own (upd β nx (some (b0, 0))) ((nx, AObj.box (zs.map AV.v)) :: hp) (q08 C B).A b ↔ own β hp (q08 C B').A b := by
    intro b
    constructor
    . rintro ((hx | hx) | ⟨q, hq, hc⟩)
      . exact .inl (.inl hx)
      . exact .inl (.inr ((hB b).2 (.inl hx)))
      . rcases Xf.1 hq with rfl | hq
        . obtain ⟨c, hc⟩ := z05 hc
          simp only [Xd, X3] at hc; rw [<- hc.1]; exact .inl hbb
        . exact .inr ⟨q, hq, (qz9 (hlt q hq)).1 hc⟩
    . rintro ((hx | hx) | ⟨q, hq, hc⟩)
      . exact .inl (.inl hx)
      . rcases (hB b).1 hx with hx | rfl
        . exact .inl (.inr hx)
        . exact .inr ⟨_, List.mem_cons_self, .inl ⟨0, q1a _ _ _⟩⟩
      . exact .inr ⟨q, List.mem_cons_of_mem _ hq, (qz9 (hlt q hq)).2 hc⟩
  have hA : Agree w w (own β hp (q08 C B').A) (own (upd β nx (some (b0, 0))) ((nx, .box (zs.map AV.v)) :: hp) (q08 C B).A) := ⟨Xa _, fun b hb _ => ⟨rfl, fun hx => hb ((hown b).1 hx)⟩⟩; have hmono : ∀ x u, rep w β nx (own β hp (q08 C B').A) x u -> rep w (upd β nx (some (b0, 0))) (nx + 1) (own (upd β nx (some (b0, 0))) ((nx, .box (zs.map AV.v)) :: hp) (q08 C B).A) x u :=
    fun x u hr => q4v hA nx (nx + 1) (Y0 _) (fun id hid => q2j _ _ _ _ hid) x u hr
  have hnblk : ¬ blks β hp b0 := fun ⟨q, hq, hc⟩ => h.hp.bofAv q hq b0 hc hbb; have hne : ∀ p ∈ hp, p.1 ≠ nx := fun p hp' => Nat.ne_of_lt (hlt p hp'); have hsub : ∀ b, (q08 C B).A b -> (q08 C B').A b := fun b hx => by
    rcases hx with hx | hx
    . exact .inl hx
    . exact .inr ((hB b).2 (.inl hx))
  have halt : ∀ b, (q08 C B).A b -> b < w.heap.size := fun b hb => h.alt b (hsub b hb); have hhp : HpRel w (upd β nx (some (b0, 0))) (nx + 1) (q08 C B).A ((nx, .box (zs.map AV.v)) :: hp) := by
    refine ⟨?_, ?_, ?_, ?_, ?_, ?_, ?_⟩
    . intro p hp'
      rcases Xf.1 hp' with rfl | hp'
      . exact ⟨b0, 0, ⟨zs⟩, e, q1a _ _ _, hw, qo8 _ _ _ _ _⟩
      . exact q3m hA (Y0 _) (fun id hid => q2j _ _ _ _ hid) (hlt p hp') (fun _ _ => rfl) (fun _ => q56 _ _ _ _ (hlt p hp')) (h.hp.obj p hp')
    . intro p hp'
      rcases Xf.1 hp' with rfl | hp'
      . exact Xm _
      . exact Nat.lt_succ_of_lt (hlt p hp')
    . simp only [Xv, Yf]
      refine ⟨?_, h.hp.nd⟩; intro hm; obtain ⟨q, hq, he⟩ := Xn.1 hm; exact hne q hq he
    . intro p hp1 q hq1 b' c1 c2 h1 h2
      rcases Xf.1 hp1 with rfl | hp1 <;> rcases Xf.1 hq1 with rfl | hq1
      . rfl
      . rw [q1a] at h1
        rw [q2j _ _ _ _ (hlt q hq1)] at h2; simp only [Xd, X3] at h1; exact absurd (q6s hq1 (by rw [h1.1]; exact h2)) hnblk
      . rw [q1a] at h2
        rw [q2j _ _ _ _ (hlt p hp1)] at h1; simp only [Xd, X3] at h2; exact absurd (q6s hp1 (by rw [h2.1]; exact h1)) hnblk
      . rw [q2j _ _ _ _ (hlt p hp1)] at h1
        rw [q2j _ _ _ _ (hlt q hq1)] at h2; exact h.hp.inj p hp1 q hq1 b' c1 c2 h1 h2
    . intro p hp1 b' c1 h1 hx
      rcases Xf.1 hp1 with rfl | hp1
      . rw [q1a] at h1
        simp only [Xd, X3] at h1; rw [<- h1.1] at hx; rcases hx with hx | hx
        . exact hnA hx
        . exact hnB hx
      . rw [q2j _ _ _ _ (hlt p hp1)] at h1
        exact h.hp.av p hp1 b' c1 h1 (hsub _ hx)
    . intro p hp1 hc
      rcases Xf.1 hp1 with rfl | hp1
      . exact q8r _ _ _
      . rw [q56 _ _ _ _ (hlt p hp1)]; exact h.hp.i0 p hp1 hc
    . intro p hp1 b' hb
      rcases Xf.1 hp1 with rfl | hp1
      . rw [q8r] at hb; cases hb
      . rw [q56 _ _ _ _ (hlt p hp1)] at hb
        obtain ⟨i1, i2, i3, i4⟩ := h.hp.ib p hp1 b' hb; refine ⟨i1, fun hx => i2 (hsub _ hx), fun q hq1 C hc => ?_, fun q hq1 hb2 => ?_⟩
        . rcases Xf.1 hq1 with rfl | hq1
          . rw [q1a] at hc
            simp only [Xd, X3] at hc; exact hnblk ⟨p, hp1, .inr (by rw [hc.1]; exact hb)⟩
          . rw [q2j _ _ _ _ (hlt q hq1)] at hc; exact i3 q hq1 C hc
        . rcases Xf.1 hq1 with rfl | hq1
          . rw [q8r] at hb2; cases hb2
          . rw [q56 _ _ _ _ (hlt q hq1)] at hb2; exact i4 q hq1 hb2
  have hext : Ext C.w0 C.β0 C.nx0 C.hp0 w (upd β nx (some (b0, 0))) (nx + 1) ((nx, .box (zs.map AV.v)) :: hp) :=
    { nx := Yz h.ext.nx, gh := fun id hid => (q2j _ _ _ _ (Xi hid h.ext.nx)).trans (h.ext.gh id hid),
      gi := fun id hid hn => (q56 _ _ _ _ (Xi hid h.ext.nx)).trans (h.ext.gi id hid hn),
      ids := fun p hp1 => by
        rcases Xf.1 hp1 with rfl | hp1
        . exact .inr h.ext.nx
        . exact h.ext.ids p hp1,
      blk := fun p hp1 b hbc => by
        rcases Xf.1 hp1 with rfl | hp1
        . obtain ⟨c, hbc⟩ := z05 hbc
          simp only [Xd, X3] at hbc; rw [<- hbc.1]; exact .inr h0
        . exact h.ext.blk p hp1 b ((qz9 (hlt p hp1)).1 hbc),
      os := h.ext.os, tape := h.ext.tape, output := h.ext.output, size := h.ext.size, keep := h.ext.keep }
  refine ⟨{ df := h.df, nt := h.nt, ntc := h.ntc, nb := h.nb, alt := halt, gs := h.gs, env := fun t => by simp only [q0u, rep], hp := hhp, ext := hext }, hmono, ?_⟩; simp only [rep]; exact ⟨Xm _, b0, 0, q1a _ _ _, rfl⟩
structure Aside {P : Program} (C : Ctx P) (F : List Nat) (d : Nat -> Nat) (zs : Nat -> List Value) (listed : Array Bool) (a : Act) (w : World) (blk : Nat -> Nat) : Prop where
 tmp : ∀ f ∈ F, listed.getD f false = true -> a.tmps.getD (d f) undef = .pointer (some ⟨blk f, 0, none⟩)
 cell : ∀ f ∈ F, listed.getD f false = true -> ∃ e, w.heap[blk f]? = some (.cells ⟨zs f⟩ e (0, 0))
 new : ∀ f ∈ F, listed.getD f false = true -> C.w0.heap.size <= blk f /\ ¬ C.A (blk f)
 inj : ∀ f ∈ F, ∀ g ∈ F, listed.getD f false = true -> listed.getD g false = true -> blk f = blk g -> f = g
def q7c (F : List Nat) (listed : Array Bool) (blk : Nat -> Nat) (b : Nat) : Prop := ∃ f ∈ F, listed.getD f false = true /\ blk f = b
def z11 (zs : Nat -> List Value) : List Nat -> Nat -> Hp -> Hp
 | [], _, hp => hp
 | f :: r, nx, hp => z11 zs r (nx + 1) ((nx, .box (zs f |>.map AV.v)) :: hp)
def relE (d : Nat -> Nat) : List Nat -> Nat -> (Nat -> AV) -> Nat -> AV
 | [], _, E => E
 | f :: r, nx, E => relE d r (nx + 1) (q4u E (some (d f)) (.ptr nx 0))
theorem Rel.releaseAll {d : Nat -> Nat} {zs : Nat -> List Value} {blk : Nat -> Nat} : ∀ (F : List Nat) (hp : Hp) (nx : Nat) (β : Ghost) (E : Nat -> AV), F.Nodup ->
  (∀ f ∈ F, a.tmps.getD (d f) undef = .pointer (some ⟨blk f, 0, none⟩)) -> (∀ f ∈ F, ∃ e, w.heap[blk f]? = some (.cells ⟨zs f⟩ e (0, 0))) -> (∀ f ∈ F, C.w0.heap.size <= blk f /\ ¬ C.A (blk f)) -> (∀ f ∈ F, ∀ g ∈ F, blk f = blk g -> f = g) ->
  Rel (q08 C fun b => ∃ f ∈ F, blk f = b) ⟨nb, [], hp, nx, nt⟩ a w β -> (∀ t, rep w β nx (own β hp (q08 C fun b => ∃ f ∈ F, blk f = b).A) (E t) (a.tmps.getD t undef)) ->
  ∃ β', Rel C ⟨nb, [], z11 zs F nx hp, nx + F.length, nt⟩ a w β' /\ ∀ t, rep w β' (nx + F.length) (own β' (z11 zs F nx hp) C.A) (relE d F nx E t) (a.tmps.getD t undef)
 | [], hp, nx, β, E, _, _, _, _, _, hR, hE => by
  have : (q08 C fun b => ∃ f ∈ ([] : List Nat), blk f = b) = C := z8c fun b => by simp
  rw [this] at hR hE; exact ⟨β, hR, hE⟩
 | f :: F, hp, nx, β, E, hn, h1, h2, h3, h4, hR, hE => by
  simp only [Yf] at hn; obtain ⟨e, he⟩ := h2 f (by simp); obtain ⟨r1, r2, r3⟩ := Rel.release (B := fun b => ∃ g ∈ F, blk g = b) (B' := fun b => ∃ g ∈ f :: F, blk g = b) (b0 := blk f) (fun b => by
   constructor
   .
    rintro ⟨g, hg, hb⟩; rcases Xf.1 hg with rfl | hg
    . exact .inr hb.symm
    . exact .inl ⟨g, hg, hb⟩
   .
    rintro (⟨g, hg, hb⟩ | rfl)
    . exact ⟨g, by simp [hg], hb⟩
    . exact ⟨f, by simp, rfl⟩) hR he (h3 f (by simp)).1 (fun ⟨g, hg, hb⟩ => by
    have := h4 g (by simp [hg]) f (by simp) hb; subst this; exact hn.1 hg) (h3 f (by simp)).2
  have := Rel.releaseAll F _ (nx + 1) _ (q4u E (some (d f)) (.ptr nx 0)) hn.2 (fun g hg => h1 g (by simp [hg])) (fun g hg => h2 g (by simp [hg])) (fun g hg => h3 g (by simp [hg])) (fun g hg g' hg' => h4 g (by simp [hg]) g' (by simp [hg'])) r1 (fun t => by
   simp only [q4u]
   split
   .
    rename_i hd
    subst hd; rw [h1 f (by simp)]; exact r3
   . exact r2 _ _ (hE t))
  simp only [z11, relE, Yc]; rw [show nx + (F.length + 1) = nx + 1 + F.length by omega]; exact this
end
end
section
open Go Go.RowKit
section
variable {P : Program} {C : Ctx P} {nb nt : Nat}
theorem j7s {ops : Array Oper} {hp : Hp} {nx : Nat} {a : Act} {w : World} {β : Ghost} {E : Nat -> AV} {oj : Oper} {r : AV} (hR : Rel C ⟨nb, [], hp, nx, nt⟩ a w β) (hE : ∀ t, rep w β nx (own β hp C.A) (E t) (a.tmps.getD t undef)) (hQj : QG P hp nx ops E oj r)
  {K : Act -> World -> Prop} {Q : Exit -> Act -> World -> Prop} (hK : ∀ v w', Still w w' -> rep w' β nx (own β hp C.A) r v -> K (a.put oj.dst v) w') : if Region.wanted oj (yielded ops a.tmps) then oj.wp P a w K Q else K (a.put oj.dst undef) w := by
 have hev : ∀ x, rep w β nx (own β hp C.A) (evF E x) (a.eval x) := fun x => by
  cases x with
  | tmp t => exact hE t
  | const v => simp only [evF, rep, Act.eval]
  | global g => simp only [evF, rep, Act.eval]
  | func f => simp only [evF, rep, Act.eval]; exact ⟨[], rfl, by simp [x9]⟩
 unfold QG at hQj
 split at hQj
 .
  rename_i hg
  rw [if_pos (by simp [Region.wanted, hg])]; exact z3p hR hev hQj hK
 .
  rename_i g want hg
  split at hQj
  .
   rename_i d hd
   split at hQj
   .
    rename_i gb hgb
    obtain ⟨r0, h1, h2⟩ := hQj; have hw := qh7 hg hd hgb (hE d); rw [hw]
    cases gb with
    | true =>
     rw [if_pos rfl]; exact z3p hR hev (h1 rfl) fun v w' hst hv => hK v w' hst (by rw [h2]; exact z0c hv)
    | false =>
     rw [if_neg (by simp)]; exact hK undef w (Still.refl w) (by rw [h2]; exact qw9)
   . exact hQj.elim
  . exact hQj.elim
theorem zg3 {ops : Array Oper} {k : Nat} {r E0 : Nat -> AV} {Ej : Nat -> Nat -> AV} (hok : z2l ops = true) (ht : qv6 ops k = true) (hks : k <= ops.size) (hEj : ∀ j, j < k -> EnvIs ops r E0 (· < j) (Ej j))
  (stop : Array Bool -> Prop) (S : Array Bool -> Act -> World -> (Nat -> AV) -> Prop) {Q : Exit -> Act -> World -> Prop} (hall : ∀ listed, (∀ i, i < k -> listed.getD i false = true) -> stop listed)
  (hs : ∀ listed j oj a w E, listed.size = ops.size -> j < k -> ops[j]? = some oj -> q8y ops k listed -> ¬ stop listed -> qh0 oj j listed -> S listed a w E -> (∀ t ∈ oj.looksAt ops, E t = Ej j t) -> ∀ K : Act -> World -> Prop,
   (∀ a' w', S (listed.setIfInBounds j true) a' w' (q4u E oj.dst (r j)) -> K a' w') -> if Region.wanted oj (yielded ops a.tmps) then oj.wp P a w K Q else K (a.put oj.dst undef) w)
  (hstop : ∀ fuel listed a w E, listed.size = ops.size -> ((Xr ops.size).filter fun i => !listed.getD i true).length <= fuel -> q8y ops k listed -> stop listed -> S listed a w E -> EnvIs ops r E0 (fun i => listed.getD i false = true) E -> wpAny P .any ops Q fuel listed a w) :
  ∀ (fuel : Nat) (listed : Array Bool) (a : Act) (w : World) (E : Nat -> AV), listed.size = ops.size -> ((Xr ops.size).filter fun i => !listed.getD i true).length <= fuel ->
   q8y ops k listed -> S listed a w E -> EnvIs ops r E0 (fun i => listed.getD i false = true) E -> wpAny P .any ops Q fuel listed a w := by
 obtain ⟨hlow, hap⟩ := qv3 hok; have htl := z1j ht; intro fuel
 induction fuel with
 | zero =>
  intro listed a w E hsz hcnt hcl hS hI; refine hstop 0 listed a w E hsz hcnt hcl (hall listed fun i hi => ?_) hS hI; have hil : i < listed.size := by omega
  cases hx : listed.getD i false with
  | true => rfl
  | false =>
   have : i ∈ (Xr ops.size).filter fun i => !listed.getD i true := List.mem_filter.2 ⟨X2.2 (by omega), by
    simp only [Xb, Xh hil, Xo] at hx ⊢; simp [hx]⟩
   have := List.length_pos_of_mem this; omega
 | succ fuel ih =>
  intro listed a w E hsz hcnt hcl hS hI
  by_cases hfull : stop listed
  . exact hstop _ listed a w E hsz hcnt hcl hfull hS hI
  have hsome : ∃ i, i < k /\ listed.getD i false = false := Classical.byContradiction fun hn => hfull (hall listed fun i hi => by
   cases hx : listed.getD i false with
   | true => rfl
   | false => exact absurd ⟨i, hi, hx⟩ hn)
  obtain ⟨i0, hi0, hli0⟩ := hsome; refine ⟨fun hre => ?_, fun j hj => ?_⟩
  .
   exfalso
   have hallt : ∀ n i, i < n -> i < k -> listed.getD i false = true := by
    intro n
    induction n with
    | zero => intro i hi; omega
    | succ n ihn =>
     intro i hi hik; rcases Xg i n with hlt | hge
     . exact ihn i hlt hik
     .
      have hin : i = n := by omega
      subst hin; have his : i < ops.size := by omega
      by_cases hl : listed.getD i false = true
      . exact hl
      .
       exfalso
       have hoi : ops[i]? = some ops[i] := Xh his; have : i ∈ Region.ready .any ops listed := mem_ready.2 ⟨by
        have hli : i < listed.size := by omega
        simp only [Array.getD_eq_getD_getElem?, Array.getElem?_eq_getElem hli, Option.getD_some] at hl ⊢
        simpa using hl, ops[i], hoi, fun e he hb => ihn e.on (hlow i _ hoi e he hb) (Nat.lt_trans (hlow i _ hoi e he hb) hik)⟩
       rw [hre] at this
       cases this
   have := hallt k i0 hi0 hi0; rw [hli0] at this
   cases this
  obtain ⟨hun, oj, hoj, hedges⟩ := mem_ready.1 hj; have hjs : j < ops.size := (Xw.1 hoj).1; have hjl : j < listed.size := by omega
  have hLj : ¬ listed.getD j false = true := by
   simp only [Xb, Xh hjl, Xo] at hun ⊢; simp [hun]
  have hjk : j < k := by
   rcases Xg j k with h | h
   . exact h
   .
    exfalso
    have := q73 (listed := fun i => listed.getD i false = true) (fun i oi hoi hLi => (hcl i oi hoi hLi).2) ops.size j i0 oj hoj hedges (htl j hjs h i0 (by omega)); rw [hli0] at this
    cases this
  have hrdy : qh0 oj j listed := ⟨by simpa using hLj, hedges⟩; have hdj : q1n ops j = oj.dst := by simp [q1n, hoj]
  have ap1 : ∀ i oi, i < j -> ops[i]? = some oi -> ¬ listed.getD i false = true -> oi.apart ops oj = true := fun i oi hij hoi hLi => hap i j oi oj hij hoi hoj fun e he hb heq => hLi (by rw [<- heq]; exact hedges e he hb); have ap2 : ∀ i oi, j < i -> ops[i]? = some oi -> listed.getD i false = true -> oj.apart ops oi = true := fun i oi hij hoi hLi => hap j i oj oi hij hoj hoi fun e he hb heq => hLj (by rw [<- heq]; exact (hcl i oi hoi hLi).2 e he hb); have hag : ∀ t ∈ oj.looksAt ops, E t = Ej j t := hI.agree (hEj j hjk) hjs hLj
   (fun i hij hLi d hd => by
    have his : i < ops.size := Nat.lt_trans hij hjs; have hoi : ops[i]? = some ops[i] := Xh his; exact (Oper.apart_spec (ap1 i _ hij hoi hLi)).1 d (by simpa [q1n, hoi] using hd))
   (fun i hij his hLi d hd => by
    have hoi : ops[i]? = some ops[i] := Xh his; exact (Oper.apart_spec (ap2 i _ hij hoi hLi)).2.2 d (by simpa [q1n, hoi] using hd))
  have hstep := hI.step hjs fun k' hjk hks hLk d hd hd' => by
   have hok' : ops[k']? = some ops[k'] := Xh hks; exact (Oper.apart_spec (ap2 k' _ hjk hok' hLk)).2.1 d (by rw [<- hdj]; exact hd) (by simpa [q1n, hok'] using hd')
  have hgetset : ∀ (i : Nat) (b : Bool), (listed.setIfInBounds j true).getD i b = if j = i then true else listed.getD i b := fun i b => by
   by_cases hji : j = i
   . subst hji; rw [if_pos rfl]; simp [hjl]
   . rw [if_neg hji]; simp [hji]
  have hnext : ∀ a' w', S (listed.setIfInBounds j true) a' w' (q4u E oj.dst (r j)) -> wpAny P .any ops Q fuel (listed.setIfInBounds j true) a' w' := by
   intro a' w' hS'; refine ih _ a' w' (q4u E (q1n ops j) (r j)) (by simpa using hsz) ?_ ?_ (by rw [hdj]; exact hS') ?_
   . have := z3n (p := fun i => !listed.getD i true) (q := fun i => !(listed.setIfInBounds j true).getD i true) (x := j) Y1 (X2.2 hjs) (by simp only [hun]; rfl) (by simp only [hgetset, if_true]; rfl) (fun y hy => by simp only [hgetset, if_neg (Ne.symm hy)]); omega
   .
    intro i oi hoi hLi; rw [hgetset] at hLi
    by_cases hji : j = i
    .
     subst hji; rw [hoj] at hoi; simp only [Xd] at hoi; subst hoi; refine ⟨hjk, fun e he hb => ?_⟩; rw [hgetset]
     split
     . rfl
     . exact hedges e he hb
    .
     rw [if_neg hji] at hLi; refine ⟨(hcl i oi hoi hLi).1, fun e he hb => ?_⟩; rw [hgetset]
     split
     . rfl
     . exact (hcl i oi hoi hLi).2 e he hb
   .
    refine hstep.iff fun i _ => ?_; rw [hgetset]
    constructor
    .
     rintro (h1 | h1)
     .
      split
      . rfl
      . exact h1
     . rw [if_pos h1.symm]
    .
     intro h1
     by_cases hji : j = i
     . exact .inr hji.symm
     . rw [if_neg hji] at h1; exact .inl h1
  unfold wpOp; rw [hoj]; simp only; have := hs listed j oj a w E hsz hjk hoj hcl hfull hrdy hS hag _ hnext
  split at this
  .
   rename_i hw
   rw [if_pos hw]; exact .inl this
  .
   rename_i hw
   rw [if_neg hw]; exact this
end
end
section
open Go Go.RowKit
def vcA (P : Program) (ops : Array Oper) (T : Nat -> List Nat) (loose effs allocs : List Nat) : List Oper -> Nat -> St -> (St -> Prop) -> Prop
 | [], _, s, K => K s
 | o :: r, j, s, K => if j ∈ allocs then (o.guard = none /\ s.nx ∈ T j) /\ match o.op with
   | .alloc e => match q1i P e with
    | some zs => vcA P ops T loose effs allocs r (j + 1) (({ s with hp := (s.nx, .box (zs.map AV.v)) :: s.hp, nx := s.nx + 1 } : St).put o.dst (.ptr s.nx 0)) K
    | none => False
   | _ => False
  else if j ∈ effs then zn3 P ops (T j) o s fun s' => vcA P ops T loose effs allocs r (j + 1) s' K
  else (j ∈ loose -> qz0 (T j) (u6 s.env) o.op) /\ qG P ops s o fun x => vcA P ops T loose effs allocs r (j + 1) (s.put o.dst x) K
section
variable {P : Program} {C : Ctx P} {s : St} {a : Act} {w : World} {β : Ghost}
def q2d (P : Program) (ops : Array Oper) (T : Nat -> List Nat) (loose effs allocs : List Nat) (nb nt : Nat) (env : List (Nat × AV)) (r : Nat -> AV) (hs : Nat -> Hp) (ns : Nat -> Nat) (j : Nat) (o : Oper) : Prop :=
 if j ∈ allocs then (o.guard = none /\ ns j ∈ T j) /\ ∃ e zs, o.op = .alloc e /\ q1i P e = some zs /\ r j = .ptr (ns j) 0 /\ hs (j + 1) = (ns j, .box (zs.map AV.v)) :: hs j /\ ns (j + 1) = ns j + 1
 else qq2 P ops T loose effs nb nt env r hs ns j o
theorem zi1 {ops : Array Oper} {tids : Nat -> List Nat} {loose effs allocs : List Nat} {K : St -> Prop} : ∀ (l : List Oper) (k : Nat) (s : St), qu9 s.nt l = true -> vcA P ops tids loose effs allocs l k s K ->
  ∃ (r : Nat -> AV) (hs : Nat -> Hp) (ns : Nat -> Nat), hs k = s.hp /\ ns k = s.nx /\ (∀ j o, l[j]? = some o -> q2d P ops tids loose effs allocs s.nb s.nt (q1j (l.take j) r k s).env r hs ns (k + j) o) /\
   K { q1j l r k s with hp := hs (k + l.length), nx := ns (k + l.length) }
 | [], k, s, _, h => ⟨fun _ => .junk, fun _ => s.hp, fun _ => s.nx, rfl, rfl, by simp, h⟩
 | o :: l, k, s, hok, h => by
  simp only [qu9, Yu, Xc] at hok; have key : ∀ (x : AV) (H : Hp) (N : Nat), q2d P ops tids loose effs allocs s.nb s.nt s.env (fun _ => x) (fun i => if i = k then s.hp else H) (fun i => if i = k then s.nx else N) k o ->
    vcA P ops tids loose effs allocs l (k + 1) ({ s.put o.dst x with hp := H, nx := N }) K ->
    ∃ (r : Nat -> AV) (hs : Nat -> Hp) (ns : Nat -> Nat), hs k = s.hp /\ ns k = s.nx /\ (∀ j o', (o :: l)[j]? = some o' -> q2d P ops tids loose effs allocs s.nb s.nt (q1j ((o :: l).take j) r k s).env r hs ns (k + j) o') /\
     K { q1j (o :: l) r k s with hp := hs (k + (o :: l).length), nx := ns (k + (o :: l).length) } := by
   intro x H N hstep hv; obtain ⟨r, hs, ns, e1, e2, e3, e4⟩ := zi1 l (k + 1) _ (by show qu9 (s.put o.dst x).nt l = true; rw [z0e.2.2.2]; exact hok.2) hv
   let r' : Nat -> AV := fun i => if i = k then x else r i
   let hs' : Nat -> Hp := fun i => if i = k then s.hp else hs i
   let ns' : Nat -> Nat := fun i => if i = k then s.nx else ns i
   have hpe : ∀ (l : List Oper) (m : Nat) (s : St), k < m -> q1j l r' m s = q1j l r m s := by
    intro l
    induction l with
    | nil => intro m s _; rfl
    | cons o' l ih =>
     intro m s hm; simp only [q1j]; have : r' m = r m := by simp only [r']; rw [if_neg (by omega)]
     rw [this, ih (m + 1) _ (by omega)]
   have hrk : r' k = x := by simp [r']
   have gh : ∀ i, k < i -> hs' i = hs i := fun i hi => by simp only [hs']; rw [if_neg (by omega)]
   have gn : ∀ i, k < i -> ns' i = ns i := fun i hi => by simp only [ns']; rw [if_neg (by omega)]
   have gr : ∀ i, k < i -> r' i = r i := fun i hi => by simp only [r']; rw [if_neg (by omega)]
   refine ⟨r', hs', ns', by simp [hs'], by simp [ns'], ?_, ?_⟩
   .
    intro j o' hj
    cases j with
    | zero =>
     simp only [List.getElem?_cons_zero, Xd] at hj; subst hj; simp only [List.take_zero, q1j, Nat.add_zero]; unfold q2d qq2 at hstep ⊢; have hne : ¬ (k + 1 = k) := Yd k; simp only [if_neg hne, if_true] at hstep; rw [gh (k + 1) (by omega), gn (k + 1) (by omega), e1, e2, hrk]; simp only [hs', ns', if_true]; exact hstep
    | succ j =>
     have := e3 j o' (by simpa using hj); rw [z6t] at this; simp only [List.take_succ_cons, q1j, hrk, hpe _ (k + 1) _ (Xm k)]; rw [z0e.2.2.1, z0e.2.2.2] at this; rw [show k + (j + 1) = k + 1 + j by omega]; unfold q2d qq2 at this ⊢; rw [gh _ (by omega), gh _ (by omega), gn _ (by omega), gn _ (by omega), gr _ (by omega)]; exact this
   . rw [z6t] at e4; simp only [q1j, hrk, hpe _ (k + 1) _ (Xm k), Yc]; rw [show k + (l.length + 1) = k + 1 + l.length by omega, gh _ (by omega), gn _ (by omega)]; exact e4
  unfold vcA at h
  split at h
  .
   rename_i hj
   obtain ⟨⟨g1, g2⟩, g3⟩ := h
   split at g3
   .
    rename_i e ho
    split at g3
    .
     rename_i zs hz
     refine key (.ptr s.nx 0) ((s.nx, .box (zs.map AV.v)) :: s.hp) (s.nx + 1) ?_ (by rw [zj9] at g3; exact g3); have hne : ¬ (k + 1 = k) := Yd k; unfold q2d; rw [if_pos hj]; simp only [if_neg hne, if_true]; exact ⟨⟨g1, g2⟩, e, zs, ho, hz, by trivial, by trivial, by trivial⟩
    . exact g3.elim
   . exact g3.elim
  rename_i hna
  split at h
  .
   rename_i hj
   obtain ⟨H, N, R, g1, g2, g4⟩ := j2m (ops := ops) h hok.1; refine key R H N ?_ (by rw [zj9] at g2; exact g2); have hne : ¬ (k + 1 = k) := Yd k; unfold q2d qq2; rw [if_neg hna, if_pos hj]; simp only [if_neg hne, if_true]; exact ⟨g1, fun C E h1 h2 => g4 C E h1 h2⟩
  .
   rename_i hj
   obtain ⟨x, h1, h2⟩ := zt7 h.2; refine key x s.hp s.nx ?_ ?_
   . have hne : ¬ (k + 1 = k) := Yd k; unfold q2d qq2; rw [if_neg hna, if_neg hj]; simp only [if_neg hne, if_true]; exact ⟨trivial, trivial, h1, h.1⟩
   .
    have e : ({ s.put o.dst x with hp := s.hp, nx := s.nx } : St) = s.put o.dst x := by cases o.dst <;> rfl
    rw [e]; exact h2
end
def za6 (ops : Array Oper) (anc : Nat -> Nat -> Bool) (k p q : Nat) (loose pre effs allocs : List Nat) : Bool :=
 effs.all (fun e => decide (q <= e) && decide (e < k)) && allocs.all (fun f => decide (p <= f) && decide (f < q)) && decide (q <= k) && decide (p <= q) && pre.all (fun e => decide (e < p)) && (Xr k).all fun j =>
  if allocs.contains j then (match q1n ops j with
   | some d => (Xr k).all fun i => i == j || (!(q1n ops i == some d) && (allocs.contains i || (allocs.all (fun f => anc i f) && pre.all (fun e => anc i e)) || match ops[i]? with | some o => !(o.looksAt ops).contains d | none => false))
   | none => false)
  else if pre.contains j then pre.all fun e => e == j || (if e < j then anc j e else anc e j)
  else (loose.contains j && !effs.contains j) || (allocs.all (fun f => anc j f) && pre.all (fun e => anc j e) && effs.all fun e => e == j || (if e < j then anc j e else anc e j))
theorem z81 {zs : Nat -> List Value} {f : Nat} : ∀ (l : List Nat) (nx : Nat) (hp : Hp), z11 zs (l ++ [f]) nx hp = (nx + l.length, .box (zs f |>.map AV.v)) :: z11 zs l nx hp
 | [], nx, hp => rfl
 | g :: l, nx, hp => by
  simp only [Yo, z11, z81 l, Yc]; rw [show nx + 1 + l.length = nx + (l.length + 1) by omega]
theorem zd1 {d : Nat -> Nat} {f : Nat} : ∀ (l : List Nat) (nx : Nat) (E : Nat -> AV), relE d (l ++ [f]) nx E = q4u (relE d l nx E) (some (d f)) (.ptr (nx + l.length) 0)
 | [], nx, E => rfl
 | g :: l, nx, E => by
  simp only [Yo, relE, zd1 l, Yc]; rw [show nx + 1 + l.length = nx + (l.length + 1) by omega]
theorem Oper.wp_put {P : Program} {o : Oper} {a : Act} {w : World} {K : Act -> World -> Prop} {Q : Exit -> Act -> World -> Prop} (h : o.wp P a w (fun a' w' => (∃ v, a'.tmps = (a.put o.dst v).tmps) -> K a' w') Q) : o.wp P a w K Q := by
 unfold Oper.wp at *
 cases hr : (execOp a.eval o).run P w with
 | ok x w' =>
  rw [hr] at h
  cases x with
  | value v => exact h ⟨v, rfl⟩
  | skip => exact h ⟨undef, rfl⟩
  | defer d => exact h ⟨undef, by cases o.dst <;> rfl⟩
  | enter f args =>
   refine Calls.mono h fun e w'' he => ?_
   cases e with
   | returned v => exact he ⟨v, rfl⟩
   | panicked c => exact he
   | outgrown => exact he
  | row rw_ args => exact Rows.mono h fun v w'' he => he ⟨v, rfl⟩
  | _ => exact h
 | halt x w' =>
  rw [hr] at h
  cases x <;> exact h
theorem j4l {P : Program} {o : Oper} {a : Act} {w : World} {b : Bool} {K : Act -> World -> Prop} {Q : Exit -> Act -> World -> Prop} (h : if b = true then o.wp P a w (fun a' w' => (∃ v, a'.tmps = (a.put o.dst v).tmps) -> K a' w') Q else (∃ v, (a.put o.dst undef).tmps = (a.put o.dst v).tmps) -> K (a.put o.dst undef) w) : if b = true then o.wp P a w K Q else K (a.put o.dst undef) w := by
 split at h
 . rename_i hb; rw [if_pos hb]; exact Oper.wp_put h
 . rename_i hb; rw [if_neg hb]; exact h ⟨undef, rfl⟩
theorem Ext.then {w0 w w' : World} {β0 β β' : Ghost} {nx0 nx nx' : Nat} {hp0 hp hp' : Hp} (h : Ext w0 β0 nx0 hp0 w β nx hp) (h' : Ext w β nx0 hp w' β' nx' hp') : Ext w0 β0 nx0 hp0 w' β' nx' hp' := by
 have hb : ∀ b, blks β hp b -> blks β0 hp0 b \/ w0.heap.size <= b := fun b ⟨x, hx, hc⟩ => h.blk x hx b hc; refine { nx := h'.nx, gh := fun id hid => (h'.gh id hid).trans (h.gh id hid), gi := fun id hid hn => (h'.gi id hid fun hm => ?_).trans (h.gi id hid hn), ids := fun x hx => ?_, blk := fun x hx b hc => ?_, os := h'.os.trans h.os, tape := h'.tape.trans h.tape, output := ⟨h'.output.1.trans h.output.1, fun k => Yg (h.output.2 k) (h'.output.2 k)⟩, size := Yg h.size h'.size, keep := fun b hlt hn => ?_ }
 .
  obtain ⟨y, hy, e⟩ := Xn.1 hm; rcases h.ids y hy with h1 | h1
  . exact hn (e ▸ h1)
  . omega
 .
  rcases h'.ids x hx with h1 | h1
  . obtain ⟨y, hy, e⟩ := Xn.1 h1; rw [<- e]; exact h.ids y hy
  . exact .inr h1
 .
  rcases h'.blk x hx b hc with h1 | h1
  . exact hb b h1
  . exact .inr (Yg h.size h1)
 . rw [h'.keep b (Xi hlt h.size) (fun hx => (hb b hx).elim hn (fun h1 => by omega)), h.keep b hlt hn]
def tOk (anc : Nat -> Nat -> Bool) (T : Nat -> List Nat) (loose pre effs allocs : List Nat) : Bool :=
 loose.all fun j => (allocs.all fun f => (T f).all fun x => decide (x ∈ T j)) && (pre ++ effs).all fun e => e == j || (if e < j then anc j e else anc e j) || (T e).all fun x => decide (x ∈ T j)
theorem z13 {t1 t2 : List Nat} (h : ∀ x ∈ t1, x ∈ t2) : ∀ (hp : Hp), q47 t2 (q47 t1 hp) = q47 t2 hp
 | [] => rfl
 | (k, o) :: r => by
  simp only [q47]
  by_cases h1 : k ∈ t1
  . rw [if_pos h1, if_pos (h k h1), z13 h r]
  . rw [if_neg h1]; simp only [q47]; rw [z13 h r]
theorem j48 {t1 t2 : List Nat} {hp hp' : Hp} (h : ∀ x ∈ t1, x ∈ t2) (he : q47 t1 hp = q47 t1 hp') : q47 t2 hp = q47 t2 hp' := by rw [<- z13 h hp, he, z13 h hp']
theorem z4h {effs : List Nat} {listed : Array Bool} : ∀ n, q1q effs listed n = 0 \/ (q1q effs listed n - 1 ∈ effs /\ listed.getD (q1q effs listed n - 1) false = true /\ 0 < q1q effs listed n)
 | 0 => .inl rfl
 | n + 1 => by
  unfold q1q
  split
  . rename_i h; exact .inr ⟨h.1, h.2, Nat.succ_pos _⟩
  . exact z4h n
theorem z2y {effs : List Nat} {listed : Array Bool} : ∀ n m, q1q effs listed n <= m -> m < n -> m ∈ effs -> listed.getD m false = false
 | 0, m, _, h, _ => absurd h (X5 _)
 | n + 1, m, h1, h2, h3 => by
  unfold q1q at h1
  split at h1
  . omega
  .
   rename_i hn
   rcases Xg m n with h4 | h4
   . exact z2y n m h1 h4 h3
   .
    have : m = n := by omega
    subst this
    cases hx : listed.getD m false with
    | false => rfl
    | true => exact absurd ⟨h3, hx⟩ hn
theorem j4z {P : Program} {ops : Array Oper} {s : St} {K : St -> Prop} (k p q : Nat) (ms : List Nat) (T : Nat -> List Nat) (loose pre effs allocs : List Nat) (htk : tOk (fun i j => (ms.getD i 0).testBit j) T loose pre effs allocs = true) (hm : P.follows .mixedOrders = true) (hms : qm3 ms 0 ops.toList = true) (hk : k <= ops.size) (htm : z5e ms ops.size k = true) (hc : za6 ops (fun i j => (ms.getD i 0).testBit j) k p q loose pre effs allocs = true) (hkeys : z8o s.nt s.env = true)
    (h : vcA P ops T loose (pre ++ effs) allocs (ops.toList.take k) 0 s fun s' => q9n P ops (ops.toList.drop k) s' K) : qv2 P ops s K := by
  intro id hok C a w β hR Q' hQ; simp only [okB, Xc, Bool.not_true, Bool.false_or] at hok; obtain ⟨hdst, hdraw⟩ := hok; have hdstk : qu9 s.nt (ops.toList.take k) = true := Xe.2 fun o ho => Xe.1 hdst o (List.mem_of_mem_take ho); obtain ⟨r, hs, ns, z1, z2, hst, hK⟩ := zi1 (ops.toList.take k) 0 s hdstk h; have hlen : (ops.toList.take k).length = k := by rw [Yp]; simp; omega
  rw [hlen, Nat.zero_add] at hK; have ht := zi6 hms htm; have hanc : ∀ i j, i < k -> (ms.getD i 0).testBit j = true -> q3r ops ops.size i j = true := fun i j hi => zl2 hms i j (by omega); simp only [za6, Xc, Xe, decide_eq_true_eq, X2] at hc; obtain ⟨⟨⟨⟨⟨hek, hfq0⟩, hqk⟩, hpq⟩, hpre⟩, hcj⟩ := hc; have hfq : ∀ f ∈ allocs, f < q := fun f hf => (hfq0 f hf).2; have hfp : ∀ f ∈ allocs, p <= f := fun f hf => (hfq0 f hf).1; have hpa : ∀ e ∈ pre, e ∉ allocs := fun e he ha => by have := hpre e he; have := hfp e ha; omega
  have hpe : ∀ e ∈ pre, e ∉ effs := fun e he ha => by have := hpre e he; have := (hek e ha).1; omega
  have hget : ∀ j (hj : j < k), ops[j]? = some (ops[j]'(Xi hj hk)) := fun j hj => Xh (Xi hj hk); have hstep : ∀ j oj, j < k -> ops[j]? = some oj -> q2d P ops T loose (pre ++ effs) allocs s.nb s.nt (q1j (ops.toList.take j) r 0 s).env r hs ns j oj := fun j oj hj ho => by
    have := hst j oj (by rw [Yx, if_pos hj]; simpa using ho); rw [Nat.zero_add, List.take_take, Nat.min_eq_left (by omega)] at this; exact this
  -- what the checks say
  have hAl : ∀ f, f ∈ allocs -> ∃ d, q1n ops f = some d /\ ∀ i, i < k -> i ≠ f -> q1n ops i ≠ some d /\ (i ∈ allocs \/ ((∀ g ∈ allocs, q3r ops ops.size i g = true) /\ ∀ g ∈ pre, q3r ops ops.size i g = true) \/ ∀ o, ops[i]? = some o -> d ∉ o.looksAt ops) := by
    intro f hf; have := hcj f (Xi (hfq f hf) hqk); rw [if_pos (by simpa using hf)] at this
    split at this
    . rename_i d hd
      refine ⟨d, hd, fun i hi hne => ?_⟩; have := Xe.1 this i (X2.2 hi); simp only [Xu, beq_iff_eq, Xc, Yb, beq_eq_false_iff_ne, Ys, Xe] at this; rcases this with h1 | ⟨h1, h2⟩
      . exact absurd h1 hne
      . refine ⟨h1, ?_⟩
        rcases h2 with (h2 | h2) | h2
        . exact .inl h2
        . exact .inr (.inl ⟨fun g hg => hanc _ _ hi (h2.1 g hg), fun g hg => hanc _ _ hi (h2.2 g hg)⟩)
        . refine .inr (.inr fun o ho => ?_)
          rw [ho] at h2
          simpa using h2
    . cases this
  have hOt : ∀ j, j < k -> j ∉ allocs -> j ∉ pre -> (j ∈ loose /\ j ∉ effs) \/ ((∀ f ∈ allocs, q3r ops ops.size j f = true) /\ (∀ f ∈ pre, q3r ops ops.size j f = true) /\ ∀ e ∈ effs, e ≠ j -> (if e < j then q3r ops ops.size j e else q3r ops ops.size e j) = true) := by
    intro j hj hna hnp; have := hcj j hj; rw [if_neg (by simpa using hna), if_neg (by simpa using hnp)] at this; simp only [Xu, Xc, Yb, Xe, beq_iff_eq] at this; rcases this with ⟨h1, h2⟩ | ⟨⟨h1, h0⟩, h2⟩
    . exact .inl ⟨by simpa using h1, by simpa using h2⟩
    . refine .inr ⟨fun f hf => hanc _ _ hj (h1 f hf), fun f hf => hanc _ _ hj (h0 f hf), fun e he hne => ?_⟩
      rcases h2 e he with h3 | h3
      . exact absurd h3 hne
      . split at h3
        . rename_i hlt
          rw [if_pos hlt]; exact hanc _ _ hj h3
        . rename_i hlt
          rw [if_neg hlt]; exact hanc _ _ (hek e he).2 h3
  have hPr : ∀ j ∈ pre, ∀ e ∈ pre, e ≠ j -> (if e < j then q3r ops ops.size j e else q3r ops ops.size e j) = true := by
    intro j hjp e he hne; have hjk : j < k := by have := hpre j hjp; omega
    have := hcj j hjk; rw [if_neg (by simpa using hpa j hjp), if_pos (by simpa using hjp)] at this; simp only [Xu, Xe, beq_iff_eq] at this; rcases this e he with h3 | h3
    . exact absurd h3 hne
    . split at h3
      . rename_i hlt
        rw [if_pos hlt]; exact hanc _ _ hjk h3
      . rename_i hlt
        rw [if_neg hlt]; exact hanc _ _ (by have := hpre e he; omega) h3
  have hsame : ∀ i, i < k -> i ∉ pre -> i ∉ effs -> i ∉ allocs -> hs (i + 1) = hs i /\ ns (i + 1) = ns i := fun i hi hnp hne hna => by
    have := hstep i _ hi (hget i hi); unfold q2d qq2 at this; rw [if_neg hna, if_neg (fun hx => (Xj.1 hx).elim hnp hne)] at this; exact ⟨this.1, this.2.1⟩
  have hoffI : ∀ (t : List Nat) (a b : Nat), a <= b -> b <= k -> (∀ m, a <= m -> m < b -> m ∈ pre ++ effs \/ m ∈ allocs -> ∀ x ∈ T m, x ∈ t) -> q47 t (hs b) = q47 t (hs a) := by
    intro t a b
    induction b with
    | zero => intro h1 _ _; have : a = 0 := by omega
              subst this; rfl
    | succ b ih =>
      intro h1 h2 h3; rcases Xg b a with h4 | h4
      . have : a = b + 1 := by omega
        subst this; rfl
      . have h5 := ih h4 (by omega) fun m g1 g2 => h3 m g1 (by omega)
        have h6 := h3 b h4 (Xm _); have := hstep b _ (by omega) (hget b (by omega)); unfold q2d qq2 at this
        split at this
        . rename_i hal
          obtain ⟨⟨_, g1⟩, e, zs, _, _, _, g2, _⟩ := this; rw [g2, q47, if_pos (h6 (.inr hal) _ g1), h5]
        . split at this
          . rename_i hef
            rw [j48 (h6 (.inl hef)) this.1, h5]
          . rw [this.1, h5]
  have htok : ∀ j, j < k -> j ∈ loose -> (∀ f ∈ allocs, ∀ x ∈ T f, x ∈ T j) /\ ∀ e, e ∈ pre ++ effs -> e ≠ j -> (if e < j then q3r ops ops.size j e else q3r ops ops.size e j) = true \/ ∀ x ∈ T e, x ∈ T j := by
    intro j hjk hj; have h1 := Xe.1 htk j hj; simp only [Xc, Xe, decide_eq_true_eq, Xu, beq_iff_eq] at h1; refine ⟨h1.1, fun e he hne => ?_⟩; have hek' : e < k := (Xj.1 he).elim (fun h1 => by have := hpre e h1; omega) (fun h1 => (hek e h1).2); rcases h1.2 e he with (h2 | h2) | h2
    . exact absurd h2 hne
    . refine .inl ?_
      split at h2
      . rename_i hlt; rw [if_pos hlt]; exact hanc _ _ hjk h2
      . rename_i hlt; rw [if_neg hlt]; exact hanc _ _ hek' h2
    . exact .inr h2
  obtain ⟨hlow, _⟩ := qv3 hdraw; have hord : ∀ (listed : Array Bool) (j : Nat) (oj : Oper), ops[j]? = some oj -> q8y ops k listed -> qh0 oj j listed -> ∀ e, e ∈ pre ++ effs -> e ≠ j -> (if e < j then q3r ops ops.size j e else q3r ops ops.size e j) = true -> listed.getD e false = decide (e < j) := by
    intro listed j oj hoj hcl hrd e he hej hanc
    split at hanc
    . rename_i hlt
      rw [decide_eq_true hlt]; exact q73 (listed := fun i => listed.getD i false = true) (fun i oi hoi hLi => (hcl i oi hoi hLi).2) ops.size j e oj hoj hrd.2 hanc
    . rename_i hge
      rw [decide_eq_false hge]
      cases hx : listed.getD e false with
      | false => rfl
      | true =>
        exfalso
        have hek' : e < k := (Xj.1 he).elim (fun h1 => by have := hpre e h1; omega) (fun h1 => (hek e h1).2); have hoe := hget e hek'; have := q73 (listed := fun i => listed.getD i false = true) (fun i oi hoi hLi => (hcl i oi hoi hLi).2) ops.size e j _ hoe (hcl e _ hoe hx).2 hanc; rw [hrd.1] at this
        cases this
  have hancL : ∀ (listed : Array Bool) (j : Nat) (oj : Oper), ops[j]? = some oj -> q8y ops k listed -> qh0 oj j listed -> (∀ f ∈ allocs, q3r ops ops.size j f = true) -> ∀ f ∈ allocs, listed.getD f false = true := fun listed j oj hoj hcl hrd hall f hf =>
    q73 (listed := fun i => listed.getD i false = true) (fun i oi hoi hLi => (hcl i oi hoi hLi).2) ops.size j f oj hoj hrd.2 (hall f hf)
  have hancLt : ∀ n j f, j < k -> q3r ops n j f = true -> f < j := by
    intro n
    induction n with
    | zero => intro j f _ hx; simp [q3r] at hx
    | succ n ih =>
      intro j f hj hx; unfold q3r at hx; rw [hget j hj] at hx; obtain ⟨e, he, hb⟩ := Array.any_eq_true'.1 hx; simp only [Xc, Xu, beq_iff_eq] at hb; have h1 := hlow j _ (hget j hj) e he hb.1; rcases hb.2 with h2 | h2
      . omega
      . have := ih e.on f (by omega) h2
        omega
  have hqle : ∀ j, j < k -> j ∉ allocs -> (∀ f ∈ allocs, q3r ops ops.size j f = true) -> ∀ f ∈ allocs, f < j := fun j hj _ hall f hf => hancLt _ j f hj (hall f hf); have hple : ∀ j, j < k -> (∀ f ∈ pre, q3r ops ops.size j f = true) -> ∀ f ∈ pre, f < j := fun j hj hall f hf => hancLt _ j f hj (hall f hf); have hancP : ∀ (listed : Array Bool) (j : Nat) (oj : Oper), ops[j]? = some oj -> q8y ops k listed -> qh0 oj j listed -> (∀ f ∈ pre, q3r ops ops.size j f = true) -> ∀ f ∈ pre, listed.getD f false = true := fun listed j oj hoj hcl hrd hall f hf =>
    q73 (listed := fun i => listed.getD i false = true) (fun i oi hoi hLi => (hcl i oi hoi hLi).2) ops.size j f oj hoj hrd.2 (hall f hf)
  -- the place from which on all new variables are there
  let p0 : Nat := q
  let H : Array Bool -> Nat := fun listed => max (q1q effs listed k) q
  have hflat : ∀ i j, i <= j -> j <= k -> (∀ m, i <= m -> m < j -> m ∉ pre /\ m ∉ effs /\ m ∉ allocs) -> hs j = hs i /\ ns j = ns i := by
    intro i j
    induction j with
    | zero => intro h1 _ _; have : i = 0 := by omega
              subst this; exact ⟨rfl, rfl⟩
    | succ j ih =>
      intro h1 h2 h3; rcases Xg j i with h4 | h4
      . have : i = j + 1 := by omega
        subst this; exact ⟨rfl, rfl⟩
      . have h5 := hsame j (by omega) (h3 j h4 (Xm _)).1 (h3 j h4 (Xm _)).2.1 (h3 j h4 (Xm _)).2.2
        have h6 := ih h4 (by omega) (fun m g1 g2 => h3 m g1 (by omega)); exact ⟨h5.1.trans h6.1, h5.2.trans h6.2⟩
  have hpos : ∀ (listed : Array Bool) (j : Nat) (oj : Oper), j < k -> ops[j]? = some oj -> j ∉ allocs -> q8y ops k listed -> qh0 oj j listed -> (∀ f ∈ allocs, q3r ops ops.size j f = true) -> (∀ f ∈ pre, q3r ops ops.size j f = true) -> (∀ e, e ∈ effs -> e ≠ j -> (if e < j then q3r ops ops.size j e else q3r ops ops.size e j) = true) ->
      hs (H listed) = hs j /\ ns (H listed) = ns j := by
    intro listed j oj hj hoj hna hcl hrd hal hpr hall; have hl : ∀ i, i < j -> i ∈ effs -> listed.getD i false = true := fun i hi he => by
      rw [hord listed j oj hoj hcl hrd i (Xk _ he) (by omega) (hall i he (by omega)), decide_eq_true hi]
    have hu : ∀ i, j <= i -> i ∈ effs -> listed.getD i false = false := fun i hi he => by
      rcases Xg j i with h1 | h1
      . rw [hord listed j oj hoj hcl hrd i (Xk _ he) (by omega) (hall i he (by omega)), decide_eq_false (by omega)]
      . have : i = j := by omega
        rw [this]; exact hrd.1
    have hfj := hqle j hj hna hal; have hpj := hple j hj hpr; have hp : q1q effs listed k = q1q effs listed j := qh2 hu k (by omega); simp only [H, hp]
    -- is there an effect ahead of it?
    rcases Nat.eq_zero_or_pos (q1q effs listed j) with h0 | h0
    . -- none
      have hnone : ∀ i, i < j -> i ∉ effs := by
        intro i hi he; have : ∀ n, i < n -> n <= j -> 0 < q1q effs listed n := by
          intro n
          induction n with
          | zero => intro hx; omega
          | succ n ih =>
            intro h1 h2; rw [q1q]
            split
            . omega
            . rename_i hn
              rcases Xg i n with h3 | h3
              . exact ih h3 (by omega)
              . have : i = n := by omega
                subst this; exact absurd ⟨he, hl i (by omega) he⟩ hn
        have := this j hi (Xa _); omega
      rw [h0, Nat.max_eq_right (Yr _)]; rcases Xg j q with hjq | hjq
      . exact hflat j q (by omega) hqk fun m h1 h2 => ⟨fun he => by have := hpj m he; omega, fun he => by have := (hek m he).1; omega, fun ha => by have := hfj m ha; omega⟩
      . have := hflat q j hjq (by omega) fun m h1 h2 => ⟨fun he => by have := hpre m he; omega, hnone m h2, fun ha => by have := hfq m ha; omega⟩
        exact ⟨this.1.symm, this.2.symm⟩
    . -- the last one
      have hlast : ∀ n, n <= j -> 0 < q1q effs listed n -> q1q effs listed n <= n /\ q1q effs listed n - 1 ∈ effs /\ ∀ m, q1q effs listed n <= m -> m < n -> m ∉ effs := by
        intro n
        induction n with
        | zero => intro _ hx; simp [q1q] at hx
        | succ n ih =>
          intro h1 h2; rw [q1q] at h2 ⊢
          split
          . rename_i hn
            exact ⟨Xa _, hn.1, fun m g1 g2 => by omega⟩
          . rename_i hn
            rw [if_neg hn] at h2; obtain ⟨g1, g2, g3⟩ := ih (by omega) h2; refine ⟨by omega, g2, fun m g4 g5 he => ?_⟩; rcases Xg m n with g6 | g6
            . exact g3 m g4 g6 he
            . have : m = n := by omega
              subst this; exact hn ⟨he, hl m (by omega) he⟩
      obtain ⟨g1, g2, g3⟩ := hlast j (Xa _) h0; have hge := (hek _ g2).1; rw [Nat.max_eq_left (by omega)]; have := hflat (q1q effs listed j) j g1 (by omega) fun m h1 h2 => ⟨fun he => by have := hpre m he; omega, g3 m h1 h2, fun ha => by have := hfq m ha; omega⟩; exact ⟨this.1.symm, this.2.symm⟩
  have hposset : ∀ (listed : Array Bool) (j : Nat), listed.size = ops.size -> j < k -> j ∉ effs -> H (listed.setIfInBounds j true) = H listed := by
    intro listed j hsz hj hne; have : ∀ n, q1q effs (listed.setIfInBounds j true) n = q1q effs listed n := by
      intro n
      induction n with
      | zero => rfl
      | succ n ih =>
        rw [q1q, q1q, ih]
        by_cases hn : n ∈ effs
        . have : (listed.setIfInBounds j true).getD n false = listed.getD n false := by
            have hnj : ¬ j = n := fun e => hne (by rw [e]; exact hn); simp [Xb, Xq, hnj]
          rw [this]
        . simp [hn]
    simp only [H, this k]
  have hposeff : ∀ (listed : Array Bool) (j : Nat) (oj : Oper), listed.size = ops.size -> j < k -> j ∈ effs -> ops[j]? = some oj -> q8y ops k listed -> qh0 oj j listed -> (∀ e, e ∈ effs -> e ≠ j -> (if e < j then q3r ops ops.size j e else q3r ops ops.size e j) = true) ->
      H (listed.setIfInBounds j true) = j + 1 := by
    intro listed j oj hsz hj hje hoj hcl hrd hall; have hu : ∀ i, j + 1 <= i -> i ∈ effs -> (listed.setIfInBounds j true).getD i false = false := fun i hi he => by
      have hnj : ¬ j = i := by omega
      have : (listed.setIfInBounds j true).getD i false = listed.getD i false := by
        simp [Xb, Xq, hnj]
      rw [this, hord listed j oj hoj hcl hrd i (Xk _ he) (by omega) (hall i he (by omega)), decide_eq_false (by omega)]
    have := (hek j hje).1; simp only [H]; rw [qh2 hu k (by omega), q1q, if_pos ⟨hje, by simp [Xb, show j < listed.size by omega]⟩]; omega
  have hf := qh1 (ops := ops) r s k hk; obtain ⟨e1, e2, e3, e4⟩ := z2w r (ops.toList.take k) 0 s; have hjunk : ∀ (listed : Array Bool) (E : Nat -> AV), EnvIs ops r (q0u s.env) (fun i => listed.getD i false = true) E -> ∀ t, s.nt <= t -> E t = .junk := by
    intro listed E hE t ht'; rcases hE t with ⟨i, hi, _, hd, _, _⟩ | ⟨_, hx⟩
    . exfalso
      have := Xe.1 hdst (ops[i]) (Xl.2 (Array.getElem_mem hi)); have hd' : (ops[i]).dst = some t := by simpa [q1n, hi] using hd
      rw [hd'] at this; simp only [dok, decide_eq_true_eq] at this; omega
    . rw [hx]; exact z1t hkeys t ht'
  -- once all new variables are there
  have phase2 := z3x (P := P) (C := C) (nb := s.nb) (nt := s.nt) (ops := ops) (r := r) (E0 := q0u s.env) (Ej := fun j => q0u (q1j (ops.toList.take j) r 0 s).env) (k := k) (Q := fun e a w => Q' e a w) hdraw ht hk hdst (fun j hj => qh1 r s j (by omega)) (allocs ++ pre) (fun j => decide (j ∈ effs))
    (fun listed => hs (H listed)) (fun listed => ns (H listed))
    (fun listed j oj hsz hj hoj hcl hF hrd hne => by
      simp only [decide_eq_false_iff_not] at hne; have hna : j ∉ allocs := fun ha => by have := hF j (Xp _ ha); rw [hrd.1] at this; cases this
      have hnp : j ∉ pre := fun ha => by have := hF j (Xk _ ha); rw [hrd.1] at this; cases this
      have h1 := hstep j oj hj hoj; unfold q2d qq2 at h1; rw [if_neg hna, if_neg (fun hx => (Xj.1 hx).elim hnp hne)] at h1; refine ⟨?_, by rw [hposset listed j hsz hj hne], by rw [hposset listed j hsz hj hne]⟩; rcases hOt j hj hna hnp with h2 | h2
      . obtain ⟨t1, t2⟩ := htok j hj h2.1
        have hHk : H listed <= k := Nat.max_le.2 ⟨z5j (effs := effs) (listed := listed) k, hqk⟩; refine j63 (hp' := hs (H listed)) (h1.2.2.2 h2.1) ?_ h1.2.2.1; rcases Nat.le_total j (H listed) with hle | hle
        . refine (hoffI (T j) j (H listed) hle hHk fun m g1 g2 g3 => ?_).symm
          rcases g3 with g3 | g3
          . have hmj : m ≠ j := fun e => by rw [e] at g3; exact (Xj.1 g3).elim hnp hne
            rcases t2 m g3 hmj with g4 | g4
            . exfalso
              have hl := hord listed j oj hoj hcl hrd m g3 hmj g4; rw [decide_eq_false (by omega)] at hl; rcases Xj.1 g3 with g5 | g5
              . rw [hF m (Xk _ g5)] at hl; cases hl
              . have hqm := (hek m g5).1
                have hmL : m < q1q effs listed k := by simp only [H] at g2; omega
                rcases z4h (effs := effs) (listed := listed) k with h0 | ⟨h0, h01, h02⟩
                . omega
                . rcases Nat.lt_or_ge m (q1q effs listed k - 1) with h3 | h3
                  . have hek1 := (hek _ h0).2
                    have hnal : q1q effs listed k - 1 ∉ allocs := fun ha => by have := hfq _ ha; have := (hek _ h0).1; omega
                    have hnpr : q1q effs listed k - 1 ∉ pre := fun ha => hpe _ ha h0; rcases hOt _ hek1 hnal hnpr with h4 | h4
                    . exact h4.2 h0
                    . have h5 := h4.2.2 m g5 (by omega)
                      rw [if_pos h3] at h5; have h6 := q73 (listed := fun i => listed.getD i false = true) (fun i oi hoi hLi => (hcl i oi hoi hLi).2) ops.size _ m _ (hget _ hek1) (hcl _ _ (hget _ hek1) h01).2 h5; rw [h6] at hl; cases hl
                  . have : m = q1q effs listed k - 1 := by omega
                    rw [this, h01] at hl; cases hl
            . exact g4
          . exact t1 m g3
        . refine hoffI (T j) (H listed) j hle (by omega) fun m g1 g2 g3 => ?_
          rcases g3 with g3 | g3
          . rcases t2 m g3 (by omega) with g4 | g4
            . exfalso
              have hl := hord listed j oj hoj hcl hrd m g3 (by omega) g4; rw [decide_eq_true g2] at hl; rcases List.mem_append.1 g3 with g5 | g5
              . have := hpre m g5; simp only [H] at g1; omega
              . rw [z2y k m (by simp only [H] at g1; omega) (by omega) g5] at hl; cases hl
            . exact g4
          . exact t1 m g3
      . rw [(hpos listed j oj hj hoj hna hcl hrd h2.1 h2.2.1 h2.2.2).1]
        exact h1.2.2.1)
    (fun listed j oj hsz hj hoj hcl hF hrd hje => by
      simp only [decide_eq_true_eq] at hje; have hna : j ∉ allocs := fun ha => by have := hF j (Xp _ ha); rw [hrd.1] at this; cases this
      have hnp : j ∉ pre := fun ha => by have := hF j (Xk _ ha); rw [hrd.1] at this; cases this
      have h1 := hstep j oj hj hoj; unfold q2d qq2 at h1; rw [if_neg hna, if_pos (Xk _ hje)] at h1; rcases hOt j hj hna hnp with h2 | h2
      . exact absurd hje h2.2
      intro E hE hag; have hp1 := hpos listed j oj hj hoj hna hcl hrd h2.1 h2.2.1 h2.2.2; have hp2 := hposeff listed j oj hsz hj hje hoj hcl hrd h2.2.2; have := h1.2 C E (hjunk listed E hE) hag; rw [hp1.1, hp1.2, hp2]; exact this)
    hf (fun fuel listed a' w' β' hsz hL hfu hR' hE' => by
      have hall : ∀ i, i < k -> i ∈ effs -> listed.getD i false = true := fun i hi _ => (hL i (by omega)).2 hi; have g : hs (H listed) = hs k /\ ns (H listed) = ns k := by
        have hfin : ∀ n, n <= k -> q <= n -> hs (max (q1q effs listed n) q) = hs n /\ ns (max (q1q effs listed n) q) = ns n := by
          intro n
          induction n with
          | zero => intro _ h2; have : q = 0 := by omega
                    simp [q1q, this]
          | succ n ih =>
            intro h1 h2; rw [q1q]
            split
            . rw [Nat.max_eq_left h2]; exact ⟨rfl, rfl⟩
            . rename_i hn
              rcases Nat.lt_or_ge n q with h3 | h3
              . have : q = n + 1 := by omega
                rw [Nat.max_eq_right (Nat.le_trans (z5j n) (by omega)), this]; exact ⟨rfl, rfl⟩
              . have h4 := ih (by omega) h3
                have h5 := hsame n (by omega) (fun he => by have := hpre n he; omega) (fun he => hn ⟨he, hall n (by omega) he⟩) (fun ha => by have := hfq n ha; omega); exact ⟨h4.1.trans h5.1.symm, h4.2.trans h5.2.symm⟩
        exact hfin k (Nat.le_refl _) hqk
      simp only [g.1, g.2] at hR' hE'; refine zi5 (k := k) (K := K) hdraw ht (fun a w ⟨s', β', hR', hk'⟩ => hQ _ _ _ _ _ hR' ⟨rfl, hk'⟩) fuel k listed { q1j (ops.toList.take k) r 0 s with hp := hs k, nx := ns k } a' w' β' (Nat.le_refl _) hk hsz hL hfu (by show qu9 (q1j (ops.toList.take k) r 0 s).nt _ = true; rw [e3]; exact hdst) ?_ hK; exact { df := hR'.df, nt := by show _ = (q1j (ops.toList.take k) r 0 s).nt; rw [e3]; exact hR'.nt, ntc := by show (q1j (ops.toList.take k) r 0 s).nt = _; rw [e3]; exact hR'.ntc, nb := by show _ = (q1j (ops.toList.take k) r 0 s).nb; rw [e4]; exact hR'.nb, alt := hR'.alt, gs := hR'.gs, hp := hR'.hp, ext := hR'.ext, env := fun t => hE' t })
  -- till then
  let r1 : Nat -> AV := fun i => if i ∈ allocs then .junk else r i
  let dd : Nat -> Nat := fun f => (q1n ops f).getD 0
  let zz : Nat -> List Value := fun f => match ops[f]? with
    | some o => (match o.op with | .alloc e => (q1i P e).getD [] | _ => [])
    | none => []
  let Fn : Nat -> List Nat := fun n => (Xr n).filter fun i => decide (i ∈ allocs)
  have memF : ∀ f, f ∈ Fn q ↔ f ∈ allocs := fun f => by
    simp only [Fn, List.mem_filter, X2, decide_eq_true_eq]; exact ⟨fun h => h.2, fun h => ⟨hfq f h, h⟩⟩
  have hndF : (Fn q).Nodup := List.Nodup.sublist List.filter_sublist Y1; have hFs : ∀ n, Fn (n + 1) = if n ∈ allocs then Fn n ++ [n] else Fn n := fun n => by
    simp only [Fn, List.range_succ, List.filter_append]
    by_cases hn : n ∈ allocs <;> simp [hn]
  have hdd : ∀ f, f ∈ allocs -> q1n ops f = some (dd f) := fun f hf => by
    obtain ⟨d, hd, _⟩ := hAl f hf; simp only [dd, hd, Xo]
  have hal : ∀ f, f ∈ allocs -> ∃ o e, ops[f]? = some o /\ o.guard = none /\ o.op = .alloc e /\ q1i P e = some (zz f) /\ r f = .ptr (ns f) 0 /\ hs (f + 1) = (ns f, .box (zz f |>.map AV.v)) :: hs f /\ ns (f + 1) = ns f + 1 := fun f hf => by
    have hfk := Xi (hfq f hf) hqk; have := hstep f _ hfk (hget f hfk); unfold q2d at this; rw [if_pos hf] at this; obtain ⟨⟨h1, _⟩, e, zs, h2, h3, h4, h5, h6⟩ := this; have hz : zz f = zs := by simp only [zz, hget f hfk, h2, h3, Xo]
    exact ⟨_, e, hget f hfk, h1, h2, by rw [hz]; exact h3, h4, by rw [hz]; exact h5, h6⟩
  have hFp : ∀ n, n <= p -> Fn n = [] := fun n hn => List.filter_eq_nil_iff.2 fun i hi => by
    simp only [decide_eq_true_eq]; intro ha; have := hfp i ha; have := X2.1 hi; omega
  have hrel : ∀ n, p <= n -> n <= q -> hs n = z11 zz (Fn n) (ns p) (hs p) /\ ns n = ns p + (Fn n).length := by
    intro n
    induction n with
    | zero =>
      intro h0 _; have : p = 0 := by omega
      subst this; rw [hFp 0 (Xa _)]; exact ⟨rfl, rfl⟩
    | succ n ih =>
      intro hpn hn; rcases Xg n p with hlt | hge
      . have : p = n + 1 := by omega
        rw [hFp (n + 1) (by omega), this]; exact ⟨rfl, rfl⟩
      obtain ⟨g1, g2⟩ := ih hge (by omega); rw [hFs]
      split
      . rename_i ha
        obtain ⟨_, _, _, _, _, _, _, h5, h6⟩ := hal n ha; rw [z81, Xt, List.length_singleton, h5, h6, g1, g2]; exact ⟨rfl, by omega⟩
      . rename_i ha
        obtain ⟨h5, h6⟩ := hsame n (by omega) (fun he => by have := hpre n he; omega) (fun he => by have := (hek n he).1; omega) ha; exact ⟨h5.trans g1, h6.trans g2⟩
  have hrelE : ∀ (E : Nat -> AV) (t : Nat) n, n <= q -> (∃ f, f < n /\ f ∈ allocs /\ dd f = t /\ relE dd (Fn n) (ns p) E t = r f) \/ ((∀ f, f < n -> f ∈ allocs -> dd f ≠ t) /\ relE dd (Fn n) (ns p) E t = E t) := by
    intro E t n
    induction n with
    | zero => intro _; exact .inr ⟨fun f hf => by omega, rfl⟩
    | succ n ih =>
      intro hn; rw [hFs]
      split
      . rename_i ha
        obtain ⟨_, _, _, _, _, _, h4, _, _⟩ := hal n ha; rw [zd1]
        by_cases hd : dd n = t
        . refine .inl ⟨n, Xm _, ha, hd, ?_⟩
          simp only [q4u, hd, if_true]; rw [h4, (hrel n (hfp n ha) (by omega)).2]
        . simp only [q4u, if_neg hd]
          rcases ih (by omega) with ⟨f, g1, g2, g3, g4⟩ | ⟨g1, g2⟩
          . exact .inl ⟨f, by omega, g2, g3, g4⟩
          . refine .inr ⟨fun f hf hfa => ?_, g2⟩
            rcases Xg f n with h | h
            . exact g1 f h hfa
            . have : f = n := by omega
              rw [this]; exact hd
      . rename_i ha
        rcases ih (by omega) with ⟨f, g1, g2, g3, g4⟩ | ⟨g1, g2⟩
        . exact .inl ⟨f, by omega, g2, g3, g4⟩
        . refine .inr ⟨fun f hf hfa => ?_, g2⟩
          rcases Xg f n with h | h
          . exact g1 f h hfa
          . have : f = n := by omega
            exact absurd (by rw [<- this]; exact hfa) ha
  have hdput : ∀ (a : Act) (d : Option Nat) (v : Value) (t : Nat), d ≠ some t -> (a.put d v).tmps.getD t undef = a.tmps.getD t undef := fun a d v t hne => by
    cases d with
    | none => rfl
    | some d =>
      have : ¬ d = t := fun e => hne (by rw [e]); simp [Act.put, Xb, this]
  have henv1 : ∀ j t, j <= k -> (∀ f ∈ allocs, dd f ≠ t) -> q0u (q1j (ops.toList.take j) r1 0 s).env t = q0u (q1j (ops.toList.take j) r 0 s).env t := by
    intro j t hj hne; have g1 := qh1 (ops := ops) r1 s j (by omega) t; have g2 := qh1 (ops := ops) r s j (by omega) t; rcases g1 with ⟨i, a1, a2, a3, a4, a5⟩ | ⟨a1, a2⟩ <;> rcases g2 with ⟨i', b1, b2, b3, b4, b5⟩ | ⟨b1, b2⟩
    . have hii : i = i' := by
        rcases Nat.lt_trichotomy i i' with h | h | h
        . exact absurd b3 (a4 i' h b1 b2)
        . exact h
        . exact absurd a3 (b4 i h a1 a2)
      subst hii; rw [a5, b5]; have : i ∉ allocs := fun ha => hne i ha (by have := hdd i ha; rw [a3] at this; exact (Yh this).symm); simp only [r1, if_neg this]
    . exact absurd a3 (b1 i a1 a2)
    . exact absurd b3 (a1 i' b1 b2)
    . rw [a2, b2]
  have hsw : Still w { w with drawn := w.drawn + 1 } := ⟨rfl, rfl, ⟨rfl, fun _ => by first | exact Xa _ | exact Y0 _⟩, Xa _, fun _ _ => rfl⟩; have hR0 : Rel C ⟨s.nb, [], s.hp, s.nx, s.nt⟩ a { w with drawn := w.drawn + 1 } β := by
    have := hR.still (w' := { w with drawn := w.drawn + 1 }) hsw; exact { df := this.df, nt := this.nt, ntc := this.ntc, nb := this.nb, alt := this.alt, gs := this.gs, hp := this.hp, ext := this.ext, env := fun t => by simp only [q0u, rep] }
  have hE0 := (hR.still (w' := { w with drawn := w.drawn + 1 }) hsw).env
  let H1 : Array Bool -> Nat := fun listed => q1q pre listed p
  have hp1same : ∀ (listed : Array Bool) (j : Nat), j ∉ pre -> H1 (listed.setIfInBounds j true) = H1 listed := by
    intro listed j hnp; have : ∀ n, q1q pre (listed.setIfInBounds j true) n = q1q pre listed n := by
      intro n
      induction n with
      | zero => rfl
      | succ n ih =>
        rw [q1q, q1q, ih]
        by_cases hn : n ∈ pre
        . have : (listed.setIfInBounds j true).getD n false = listed.getD n false := by
            have hnj : ¬ j = n := fun e => hnp (by rw [e]; exact hn); simp [Xb, Xq, hnj]
          rw [this]
        . simp [hn]
    exact this p
  have hp1eff : ∀ (listed : Array Bool) (j : Nat) (oj : Oper), listed.size = ops.size -> j ∈ pre -> ops[j]? = some oj -> q8y ops k listed -> qh0 oj j listed -> H1 (listed.setIfInBounds j true) = j + 1 /\ hs (H1 listed) = hs j /\ ns (H1 listed) = ns j := by
    intro listed j oj hsz hjp hoj hcl hrd; have hjP := hpre j hjp; have hl : ∀ i, i < j -> i ∈ pre -> listed.getD i false = true := fun i hi he => by
      rw [hord listed j oj hoj hcl hrd i (Xp _ he) (by omega) (hPr j hjp i he (by omega)), decide_eq_true hi]
    have hu : ∀ i, j <= i -> i ∈ pre -> listed.getD i false = false := fun i hi he => by
      rcases Xg j i with h1 | h1
      . rw [hord listed j oj hoj hcl hrd i (Xp _ he) (by omega) (hPr j hjp i he (by omega)), decide_eq_false (by omega)]
      . have : i = j := by omega
        rw [this]; exact hrd.1
    have hu' : ∀ i, j + 1 <= i -> i ∈ pre -> (listed.setIfInBounds j true).getD i false = false := fun i hi he => by
      have hnj : ¬ j = i := by omega
      have : (listed.setIfInBounds j true).getD i false = listed.getD i false := by
        simp [Xb, Xq, hnj]
      rw [this]; exact hu i (by omega) he
    have hjs : j < ops.size := by omega
    have hnoa : ∀ m, m < j -> m ∉ effs /\ m ∉ allocs := fun m hm => ⟨fun he => by have := (hek m he).1; omega, fun ha => by have := hfp m ha; omega⟩; have hat : ∀ {α : Type} (f : Nat -> α), (∀ i, i < j -> i ∉ pre -> f (i + 1) = f i) -> f (H1 listed) = f j := fun f hf => by
      simp only [H1]; rw [qh2 hu p (by omega)]; exact zt8 hf hl j (Xa _)
    refine ⟨?_, hat hs fun i hi hn => (hsame i (by omega) hn (hnoa i hi).1 (hnoa i hi).2).1, hat ns fun i hi hn => (hsame i (by omega) hn (hnoa i hi).1 (hnoa i hi).2).2⟩; simp only [H1]; rw [qh2 hu' p (by omega), q1q, if_pos ⟨hjp, by simp [Xb, show j < listed.size by omega]⟩]
  have hset : ∀ (listed : Array Bool) (j i : Nat), ¬ j = i -> (listed.setIfInBounds j true).getD i false = listed.getD i false := fun listed j i hne => by
    simp [Xb, Xq, hne]
  refine wp_region_any hm (zg3 (P := P) (ops := ops) (r := r1) (E0 := q0u s.env) (Ej := fun j => q0u (q1j (ops.toList.take j) r1 0 s).env) (k := k) hdraw ht hk (fun j hj => qh1 r1 s j (by omega))
    (fun listed => (∀ f ∈ allocs, listed.getD f false = true) /\ ∀ f ∈ pre, listed.getD f false = true)
    (fun listed a w E => (∀ e ∈ effs, listed.getD e false = false) /\ (∀ t, s.nt <= t -> E t = .junk) /\ ∃ β blk, Rel (q08 C (q7c (Fn q) listed blk)) ⟨s.nb, [], hs (H1 listed), ns (H1 listed), s.nt⟩ a w β /\
      (∀ t, rep w β (ns (H1 listed)) (own β (hs (H1 listed)) (q08 C (q7c (Fn q) listed blk)).A) (E t) (a.tmps.getD t undef)) /\ Aside C (Fn q) dd zz listed a w blk)
    (fun listed hl => ⟨fun f hf => hl f (Xi (hfq f hf) hqk), fun f hf => hl f (by have := hpre f hf; omega)⟩) ?_ ?_
    ops.size (Yi ops.size false) a _ (q0u s.env) (by simp) ?_ ?_ ?_ ?_)
  . -- one more
    intro listed j oj a w E hsz hj hoj hcl hns hrd ⟨hne, hjk, β, blk, hR, hE, hA⟩ hag K' hK'; have hdok : dok s.nt oj.dst = true := Xe.1 hdst oj (Xl.2 (Array.mem_of_getElem? hoj)); have hjd : q1n ops j = oj.dst := by simp [q1n, hoj]
    have hje : j ∉ effs := fun he => by
      have hna : j ∉ allocs := fun ha => by have := (hek j he).1; have := hfq j ha; omega
      rcases hOt j hj hna (fun hx => hpe j hx he) with h2 | h2
      . exact h2.2 he
      . exact hns ⟨hancL listed j oj hoj hcl hrd h2.1, hancP listed j oj hoj hcl hrd h2.2.1⟩
    have hne' : ∀ e ∈ effs, (listed.setIfInBounds j true).getD e false = false := fun e he => by
      rw [hset listed j e (fun e' => hje (by rw [e']; exact he))]; exact hne e he
    by_cases ha : j ∈ allocs
    . -- a new variable
      obtain ⟨o, e, ho, hg, hop, hz, _, _, _⟩ := hal j ha; rw [hoj] at ho; simp only [Xd] at ho; subst ho; have hdj : oj.dst = some (dd j) := by rw [<- hjd]; exact hdd j ha
      rw [if_pos (by simp [Region.wanted, hg])]; have hz' := hz; unfold q1i at hz'; simp only [Option.map_eq_some_iff, Option.bind_eq_some_iff] at hz'; obtain ⟨z, ⟨i, hi, hzi⟩, hzz⟩ := hz'; have hrun : (execOp a.eval oj).run P w = .ok (.value (.pointer (some ⟨w.heap.size, 0, none⟩))) (w.alloc (.cells ⟨z.cells.toList⟩ e)) := by
        unfold execOp; simp only [hop]; simp [Instr.alloc, zeroValue, typeInfo, hi, hzi, newVar, newRow]
      unfold Oper.wp; rw [hrun]; simp only [Oper.upon]; have hH1 := hp1same listed j (fun hx => hpa j hx ha); rw [<- hH1] at hR hE; refine hK' _ _ ⟨hne', fun t ht' => by
        rw [hdj]; simp only [q4u]
        split
        . simp only [r1, if_pos ha]
        . exact hjk t ht', β, fun f => if f = j then w.heap.size else blk f, ?_⟩
      have hbl : ∀ f ∈ Fn q, listed.getD f false = true -> blk f < w.heap.size := fun f hf hl => by
        obtain ⟨e, he⟩ := hA.cell f hf hl; exact (Xw.1 he).1
      have hlj : listed.getD j false = false := hrd.1; have hB : ∀ b, q7c (Fn q) (listed.setIfInBounds j true) (fun f => if f = j then w.heap.size else blk f) b ↔ (q7c (Fn q) listed blk b \/ b = w.heap.size) := by
        intro b
        constructor
        . rintro ⟨f, hf, hl, hb⟩
          dsimp only at hb
          by_cases hfj : f = j
          . rw [if_pos hfj] at hb; exact .inr hb.symm
          . rw [if_neg hfj] at hb
            rw [hset listed j f (Ne.symm hfj)] at hl; exact .inl ⟨f, hf, hl, hb⟩
        . rintro (⟨f, hf, hl, hb⟩ | rfl)
          . have hfj : ¬ f = j := fun e => by rw [e, hlj] at hl; cases hl
            exact ⟨f, hf, by rw [hset listed j f (Ne.symm hfj)]; exact hl, by dsimp only; rw [if_neg hfj]; exact hb⟩
          . exact ⟨j, (memF j).2 ha, by simp [Xb, show j < listed.size by omega], by dsimp only; rw [if_pos rfl]⟩
      have hsz' : w.heap.size <= (w.alloc (.cells ⟨z.cells.toList⟩ e)).heap.size := by simp
      have hsz1 : (w.alloc (.cells ⟨z.cells.toList⟩ e)).heap.size = w.heap.size + 1 := by simp
      have hkeep : ∀ b, b < w.heap.size -> (w.alloc (.cells ⟨z.cells.toList⟩ e)).heap[b]? = w.heap[b]? := fun b hb => Below.heap_alloc w _ b hb; have hAg : Agree w (w.alloc (.cells ⟨z.cells.toList⟩ e)) (own β (hs (H1 (listed.setIfInBounds j true))) (q08 C (q7c (Fn q) listed blk)).A) (own β (hs (H1 (listed.setIfInBounds j true))) (q08 C (q7c (Fn q) (listed.setIfInBounds j true) (fun f => if f = j then w.heap.size else blk f))).A) := ⟨hsz', fun b hb hlt => ⟨hkeep b hlt, fun hx => hb (by
        rcases hx with (hx | hx) | hx
        . exact .inl (.inl hx)
        . rcases (hB b).1 hx with hx | hx
          . exact .inl (.inr hx)
          . omega
        . exact .inr hx)⟩⟩
      have hext := hR.ext; refine ⟨?_, ?_, ?_⟩
      . have hzs : (a.put oj.dst (.pointer (some ⟨w.heap.size, 0, none⟩))).tmps.size = a.tmps.size := by cases hdd : oj.dst <;> simp [Act.put]
        have hfs : (a.put oj.dst (.pointer (some ⟨w.heap.size, 0, none⟩))).defers = a.defers := by cases hdd : oj.dst <;> rfl
        have halt : ∀ b, (q08 C (q7c (Fn q) (listed.setIfInBounds j true) (fun f => if f = j then w.heap.size else blk f))).A b -> b < (w.alloc (.cells ⟨z.cells.toList⟩ e)).heap.size := fun b hb => by
          rcases hb with hb | hb
          . have := hR.alt b (.inl hb); omega
          . rcases (hB b).1 hb with hb | rfl
            . have := hR.alt b (.inr hb); omega
            . omega
        have hhp : HpRel (w.alloc (.cells ⟨z.cells.toList⟩ e)) β (ns (H1 (listed.setIfInBounds j true))) (q08 C (q7c (Fn q) (listed.setIfInBounds j true) (fun f => if f = j then w.heap.size else blk f))).A (hs (H1 (listed.setIfInBounds j true))) :=
          ⟨fun p hp => q3m hAg (Xa _) (fun _ _ => rfl) (hR.hp.lt p hp) (fun b hbc => hkeep b (hR.hp.bofLt p hp b hbc)) (fun _ => rfl) (hR.hp.obj p hp), hR.hp.lt, hR.hp.nd, hR.hp.inj, fun p hp b c hbc hx => by
            rcases hx with hx | hx
            . exact hR.hp.av p hp b c hbc (.inl hx)
            . rcases (hB b).1 hx with hx | hx
              . exact hR.hp.av p hp b c hbc (.inr hx)
              . have := hR.hp.blt p hp b c hbc; omega, hR.hp.i0, fun p hp b hb => by
            obtain ⟨i1, i2, i3, i4⟩ := hR.hp.ib p hp b hb; refine ⟨Xi i1 hsz', fun hx => ?_, i3, i4⟩; rcases hx with hx | hx
            . exact i2 (.inl hx)
            . rcases (hB b).1 hx with hx | hx
              . exact i2 (.inr hx)
              . omega⟩
        have hex : Ext C.w0 C.β0 C.nx0 C.hp0 (w.alloc (.cells ⟨z.cells.toList⟩ e)) β (ns (H1 (listed.setIfInBounds j true))) (hs (H1 (listed.setIfInBounds j true))) :=
          { nx := hext.nx, gh := hext.gh, gi := hext.gi, ids := hext.ids, blk := hext.blk, os := hext.os, tape := hext.tape, output := hext.output, size := Yg hext.size hsz',
            keep := fun b hb hnb => (hkeep b (Xi hb hext.size)).trans (hext.keep b hb hnb) }
        exact { df := by rw [hfs]; exact hR.df, nt := by rw [hzs]; exact hR.nt, ntc := hR.ntc, nb := hR.nb, alt := halt, gs := hR.gs, hp := hhp, ext := hex, env := fun t => by simp only [q0u, rep] }
      . intro t
        have hr1 : r1 j = .junk := by simp only [r1, if_pos ha]
        rw [hdj, hr1]; simp only [q4u]
        split
        . simp only [rep]
        . rename_i hdt
          have := hdput a (some (dd j)) (.pointer (some ⟨w.heap.size, 0, none⟩)) t (fun e => hdt (Yh e)); rw [this]; exact q4v hAg (ns (H1 (listed.setIfInBounds j true))) (ns (H1 (listed.setIfInBounds j true))) (Xa _) (fun _ _ => rfl) _ _ (hE t)
      . have hdlt : dd j < a.tmps.size := by
          rw [hdj] at hdok; simp only [dok, decide_eq_true_eq] at hdok; rw [hR.nt]; exact hdok
        have hnd : ∀ f ∈ Fn q, ¬ f = j -> ¬ dd j = dd f := fun f hf hfj e => by
          obtain ⟨d, h1, h2⟩ := hAl f ((memF f).1 hf); have h3 := (h2 j hj (Ne.symm hfj)).1; rw [hdd j ha, e, <- hdd f ((memF f).1 hf), h1] at h3; exact h3 rfl
        refine ⟨fun f hf hl => ?_, fun f hf hl => ?_, fun f hf hl => ?_, fun f hf g hg hl hl' hb => ?_⟩
        . skip
          by_cases hfj : f = j
          . subst hfj
            rw [if_pos rfl, hdj]; simp only [Act.put]; rw [z0l _ _ _ _ _ hdlt, if_pos rfl]
          . rw [if_neg hfj]
            rw [hset listed j f (Ne.symm hfj)] at hl; rw [hdj, hdput a (some (dd j)) _ (dd f) (fun e => hnd f hf hfj (Yh e))]; exact hA.tmp f hf hl
        . skip
          by_cases hfj : f = j
          . subst hfj
            rw [if_pos rfl]; refine ⟨e, ?_⟩; rw [<- hzz]; exact heap_alloc_new w _
          . rw [if_neg hfj]
            rw [hset listed j f (Ne.symm hfj)] at hl; obtain ⟨e', he'⟩ := hA.cell f hf hl; exact ⟨e', (hkeep _ (hbl f hf hl)).trans he'⟩
        . skip
          by_cases hfj : f = j
          . subst hfj
            rw [if_pos rfl]; exact ⟨hext.size, fun hx => Nat.lt_irrefl _ (hR.alt _ (.inl hx))⟩
          . rw [if_neg hfj]
            rw [hset listed j f (Ne.symm hfj)] at hl; exact hA.new f hf hl
        . skip
          by_cases hfj : f = j <;> by_cases hgj : g = j
          . rw [hfj, hgj]
          . rw [if_pos hfj, if_neg hgj] at hb
            rw [hset listed j g (Ne.symm hgj)] at hl'; have := hbl g hg hl'; omega
          . rw [if_neg hfj, if_pos hgj] at hb
            rw [hset listed j f (Ne.symm hfj)] at hl; have := hbl f hf hl; omega
          . rw [if_neg hfj, if_neg hgj] at hb
            rw [hset listed j f (Ne.symm hfj)] at hl; rw [hset listed j g (Ne.symm hgj)] at hl'; exact hA.inj f hf g hg hl hl' hb
    .
      by_cases hjp : j ∈ pre
      . -- what is turned early
        have h1 := hstep j oj hj hoj; unfold q2d qq2 at h1; rw [if_neg ha, if_pos (Xp _ hjp)] at h1; obtain ⟨_, heff⟩ := h1; obtain ⟨q1, q2, q3⟩ := hp1eff listed j oj hsz hjp hoj hcl hrd; have hnl : ∀ f ∈ allocs, dd f ∉ oj.looksAt ops := fun f hf => by
          obtain ⟨d, g1, g2⟩ := hAl f hf; have hdf : dd f = d := by simp only [dd, g1, Xo]
          rw [hdf]; rcases (g2 j hj (fun e => ha (by rw [e]; exact hf))).2 with g3 | g3 | g3
          . exact absurd g3 ha
          . exact absurd ⟨hancL listed j oj hoj hcl hrd g3.1, hancP listed j oj hoj hcl hrd g3.2⟩ hns
          . exact g3 oj hoj
        rw [q2, q3] at hR hE; have hBeq : q08 C (q7c (Fn q) (listed.setIfInBounds j true) blk) = q08 C (q7c (Fn q) listed blk) := z1p fun b => by
          constructor <;> rintro ⟨f, hf, hl, hb⟩
          . have hfj : ¬ j = f := fun e => ha (by rw [e]; exact (memF f).1 hf)
            exact ⟨f, hf, by rw [<- hset listed j f hfj]; exact hl, hb⟩
          . have hfj : ¬ j = f := fun e => ha (by rw [e]; exact (memF f).1 hf)
            exact ⟨f, hf, by rw [hset listed j f hfj]; exact hl, hb⟩
        -- held against the world as it stands now
        let C1 : Ctx P := { q08 C (q7c (Fn q) listed blk) with w0 := w, β0 := β, hp0 := hs j }
        have hR1 : Rel C1 ⟨s.nb, [], hs j, ns j, s.nt⟩ a w β := { df := hR.df, nt := hR.nt, ntc := hR.ntc, nb := hR.nb, alt := hR.alt, gs := hR.gs.ext hR.ext, hp := hR.hp, env := hR.env, ext := { nx := hR.ext.nx, gh := fun _ _ => rfl, gi := fun _ _ _ => rfl, ids := fun x hx => .inl (Xn.2 ⟨x, hx, rfl⟩), blk := fun x hx b hb => .inl ⟨x, hx, hb⟩, os := rfl, tape := rfl, output := ⟨rfl, fun _ => Xa _⟩, size := Xa _, keep := fun _ _ _ => rfl } }; refine j4l (heff C1 E hjk (fun t htl => by rw [hag t htl, henv1 j t (by omega) (fun f hf e => hnl f hf (by rw [e]; exact htl))]) a w β hR1 hE _ _ fun a' w' β' hR' hE' => ?_); rintro ⟨v, hv⟩; have hr1 : r1 j = r j := by simp only [r1, if_neg ha]
        refine hK' _ _ ⟨hne', fun t ht' => ?_, β', blk, ?_⟩
        . have hdt : oj.dst ≠ some t := fun e => by
            rw [e] at hdok; simp only [dok, decide_eq_true_eq] at hdok; omega
          cases hdq : oj.dst with
          | none => simp only [q4u]; exact hjk t ht'
          | some d =>
            simp only [q4u]; rw [if_neg (fun e => hdt (by rw [hdq, e]))]; exact hjk t ht'
        rw [hBeq, q1]; have hrep : ∀ f ∈ Fn q, listed.getD f false = true -> w'.heap[blk f]? = w.heap[blk f]? := fun f hf hl => by
          obtain ⟨e, he⟩ := hA.cell f hf hl; refine hR'.ext.keep _ (Xw.1 he).1 ?_; rintro ⟨x, hx, hb⟩; exact hR.hp.bofAv x hx _ hb (.inr ⟨f, hf, hl, rfl⟩)
        refine ⟨{ df := hR'.df, nt := hR'.nt, ntc := hR'.ntc, nb := hR'.nb, alt := hR'.alt, gs := hR.gs, hp := hR'.hp, env := hR'.env, ext := hR.ext.then (by rw [hR.nb]; have := hR'.ext; rw [show C1.nx0 = s.nb from hR.nb] at this; exact this) }, ?_, ?_⟩
        . rw [hr1]; exact hE'
        . have hfj : ∀ f ∈ Fn q, ¬ j = f := fun f hf e => ha (by rw [e]; exact (memF f).1 hf)
          have hnd : ∀ f ∈ Fn q, oj.dst ≠ some (dd f) := fun f hf e => by
            obtain ⟨d, g1, g2⟩ := hAl f ((memF f).1 hf); have hdf : dd f = d := by simp only [dd, g1, Xo]
            have := (g2 j hj (fun e' => hfj f hf e')).1; rw [hjd, e, hdf] at this; exact this rfl
          refine ⟨fun f hf hl => ?_, fun f hf hl => ?_, fun f hf hl => ?_, fun f hf g hg hl hl' hb => ?_⟩
          . rw [hset listed j f (hfj f hf)] at hl
            rw [hv, hdput a _ _ _ (hnd f hf)]; exact hA.tmp f hf hl
          . rw [hset listed j f (hfj f hf)] at hl
            obtain ⟨e', he'⟩ := hA.cell f hf hl; exact ⟨e', (hrep f hf hl).trans he'⟩
          . rw [hset listed j f (hfj f hf)] at hl
            exact hA.new f hf hl
          . rw [hset listed j f (hfj f hf)] at hl
            rw [hset listed j g (hfj g hg)] at hl'; exact hA.inj f hf g hg hl hl' hb
      . -- what only looks
        have h1 := hstep j oj hj hoj; unfold q2d qq2 at h1; rw [if_neg ha, if_neg (fun hx => (Xj.1 hx).elim hjp hje)] at h1; have hlo : j ∈ loose := by
          rcases hOt j hj ha hjp with h2 | h2
          . exact h2.1
          . exact absurd ⟨hancL listed j oj hoj hcl hrd h2.1, hancP listed j oj hoj hcl hrd h2.2.1⟩ hns
        have hnl : ∀ f ∈ allocs, dd f ∉ oj.looksAt ops := fun f hf => by
          obtain ⟨d, g1, g2⟩ := hAl f hf; have hdf : dd f = d := by simp only [dd, g1, Xo]
          rw [hdf]; rcases (g2 j hj (fun e => ha (by rw [e]; exact hf))).2 with g3 | g3 | g3
          . exact absurd g3 ha
          . exact absurd ⟨hancL listed j oj hoj hcl hrd g3.1, hancP listed j oj hoj hcl hrd g3.2⟩ hns
          . exact g3 oj hoj
        have hQ0 : QG P (hs (H1 listed)) (ns (H1 listed)) ops E oj (r j) := by
          obtain ⟨t1, t2⟩ := htok j hj hlo; have hHp : H1 listed <= p := z5j (effs := pre) (listed := listed) p; have hoo : q47 (T j) (hs j) = q47 (T j) (hs (H1 listed)) := by
            rcases Nat.le_total j (H1 listed) with hle | hle
            . refine (hoffI (T j) j (H1 listed) hle (by omega) fun m g1 g2 g3 => ?_).symm
              rcases g3 with g3 | g3
              . have hmj : m ≠ j := fun e => by rw [e] at g3; exact (Xj.1 g3).elim hjp hje
                rcases t2 m g3 hmj with g4 | g4
                . exfalso
                  have hl := hord listed j oj hoj hcl hrd m g3 hmj g4; rw [decide_eq_false (by omega)] at hl; rcases Xj.1 g3 with g5 | g5
                  . rcases z4h (effs := pre) (listed := listed) p with h0 | ⟨h0, h01, h02⟩
                    . simp only [H1] at g2; omega
                    . rcases Xg m (q1q pre listed p - 1) with h3 | h3
                      . have hek1 : q1q pre listed p - 1 < k := by have := hpre _ h0; omega
                        have h5 := hPr _ h0 m g5 (by omega); rw [if_pos h3] at h5; have h6 := q73 (listed := fun i => listed.getD i false = true) (fun i oi hoi hLi => (hcl i oi hoi hLi).2) ops.size _ m _ (hget _ hek1) (hcl _ _ (hget _ hek1) h01).2 h5; rw [h6] at hl; cases hl
                      . have : m = q1q pre listed p - 1 := by simp only [H1] at g2; omega
                        rw [this, h01] at hl; cases hl
                  . have := (hek m g5).1; omega
                . exact g4
              . exact t1 m g3
            . refine hoffI (T j) (H1 listed) j hle (by omega) fun m g1 g2 g3 => ?_
              rcases g3 with g3 | g3
              . rcases t2 m g3 (by omega) with g4 | g4
                . exfalso
                  have hl := hord listed j oj hoj hcl hrd m g3 (by omega) g4; rw [decide_eq_true g2] at hl; rcases Xj.1 g3 with g5 | g5
                  . rw [z2y p m (by simp only [H1] at g1; omega) (hpre m g5) g5] at hl; cases hl
                  . rw [hne m g5] at hl; cases hl
                . exact g4
              . exact t1 m g3
          have g1 := j63 (hp' := hs (H1 listed)) (h1.2.2.2 hlo) hoo h1.2.2.1; refine zp9 (nx := ns (H1 listed)) (fun t htl => ?_) g1; rw [hag t htl, henv1 j t (by omega) (fun f hf e => hnl f hf (by rw [e]; exact htl))]
        have hBeq : q08 C (q7c (Fn q) (listed.setIfInBounds j true) blk) = q08 C (q7c (Fn q) listed blk) := z1p fun b => by
          constructor <;> rintro ⟨f, hf, hl, hb⟩
          . have hfj : ¬ j = f := fun e => ha (by rw [e]; exact (memF f).1 hf)
            exact ⟨f, hf, by rw [<- hset listed j f hfj]; exact hl, hb⟩
          . have hfj : ¬ j = f := fun e => ha (by rw [e]; exact (memF f).1 hf)
            exact ⟨f, hf, by rw [hset listed j f hfj]; exact hl, hb⟩
        refine j7s hR hE hQ0 fun v w' hst hv => hK' _ _ ⟨hne', fun t ht' => ?_, β, blk, ?_⟩
        . have hdt : oj.dst ≠ some t := fun e => by
            rw [e] at hdok; simp only [dok, decide_eq_true_eq] at hdok; omega
          cases hdq : oj.dst with
          | none => simp only [q4u]; exact hjk t ht'
          | some d =>
            simp only [q4u]; rw [if_neg (fun e => hdt (by rw [hdq, e]))]; exact hjk t ht'
        rw [hBeq, hp1same listed j hjp]; have hr1 : r1 j = r j := by simp only [r1, if_neg ha]
        have hR' := hR.still hst; refine ⟨?_, ?_, ?_⟩
        . have hzs : (a.put oj.dst v).tmps.size = a.tmps.size := by cases hdd : oj.dst <;> simp [Act.put]
          have hfs : (a.put oj.dst v).defers = a.defers := by cases hdd : oj.dst <;> rfl
          exact { df := by rw [hfs]; exact hR'.df, nt := by rw [hzs]; exact hR'.nt, ntc := hR'.ntc, nb := hR'.nb, alt := hR'.alt, gs := hR'.gs, hp := hR'.hp, ext := hR'.ext, env := fun t => by simp only [q0u, rep] }
        . intro t
          rw [hr1]
          cases hdq : oj.dst with
          | none => simp only [q4u, Act.put]; exact z4a (s := ⟨s.nb, [], hs (H1 listed), ns (H1 listed), s.nt⟩) (C := q08 C (q7c (Fn q) listed blk)) hst (hE t)
          | some d =>
            simp only [q4u, Act.put]; have hlt : d < a.tmps.size := by
              rw [hdq] at hdok; simp only [dok, decide_eq_true_eq] at hdok; rw [hR.nt]; exact hdok
            rw [z0l _ _ _ _ _ hlt]
            split
            . exact hv
            . exact z4a (s := ⟨s.nb, [], hs (H1 listed), ns (H1 listed), s.nt⟩) (C := q08 C (q7c (Fn q) listed blk)) hst (hE t)
        . have hfj : ∀ f ∈ Fn q, ¬ j = f := fun f hf e => ha (by rw [e]; exact (memF f).1 hf)
          have hnd : ∀ f ∈ Fn q, oj.dst ≠ some (dd f) := fun f hf e => by
            obtain ⟨d, g1, g2⟩ := hAl f ((memF f).1 hf); have hdf : dd f = d := by simp only [dd, g1, Xo]
            have := (g2 j hj (fun e' => hfj f hf e')).1; rw [hjd, e, hdf] at this; exact this rfl
          refine ⟨fun f hf hl => ?_, fun f hf hl => ?_, fun f hf hl => ?_, fun f hf g hg hl hl' hb => ?_⟩
          . rw [hset listed j f (hfj f hf)] at hl
            rw [hdput a _ _ _ (hnd f hf)]; exact hA.tmp f hf hl
          . rw [hset listed j f (hfj f hf)] at hl
            obtain ⟨e', he'⟩ := hA.cell f hf hl; exact ⟨e', (hst.block _ (Xw.1 he').1).trans he'⟩
          . rw [hset listed j f (hfj f hf)] at hl
            exact hA.new f hf hl
          . rw [hset listed j f (hfj f hf)] at hl
            rw [hset listed j g (hfj g hg)] at hl'; exact hA.inj f hf g hg hl hl' hb
  . -- all are there
    intro fuel listed a w E hsz hcnt hcl hall ⟨hne, _, β, blk, hR, hE, hA⟩ hI; have hlF : ∀ f ∈ Fn q, listed.getD f false = true := fun f hf => hall.1 f ((memF f).1 hf); have hBeq : q08 C (q7c (Fn q) listed blk) = q08 C (fun b => ∃ f ∈ Fn q, blk f = b) := z1p fun b => by
      constructor
      . rintro ⟨f, hf, _, hb⟩; exact ⟨f, hf, hb⟩
      . rintro ⟨f, hf, hb⟩; exact ⟨f, hf, hlF f hf, hb⟩
    have hHp : hs (H1 listed) = hs p /\ ns (H1 listed) = ns p := by
      have : ∀ n, n <= p -> hs (q1q pre listed n) = hs n /\ ns (q1q pre listed n) = ns n := by
        intro n
        induction n with
        | zero => intro _; exact ⟨rfl, rfl⟩
        | succ n ih =>
          intro h1; rw [q1q]
          split
          . exact ⟨rfl, rfl⟩
          . rename_i hn
            have h4 := ih (by omega); have h5 := hsame n (by omega) (fun he => hn ⟨he, hall.2 n he⟩) (fun he => by have := (hek n he).1; omega) (fun ha => by have := hfp n ha; omega); exact ⟨h4.1.trans h5.1.symm, h4.2.trans h5.2.symm⟩
      exact this p (Xa _)
    rw [hBeq, hHp.1, hHp.2] at hR; rw [hBeq, hHp.1, hHp.2] at hE; obtain ⟨β', hR', hE'⟩ := Rel.releaseAll (d := dd) (zs := zz) (blk := blk) (Fn q) (hs p) (ns p) β E hndF (fun f hf => hA.tmp f hf (hlF f hf)) (fun f hf => hA.cell f hf (hlF f hf)) (fun f hf => hA.new f hf (hlF f hf)) (fun f hf g hg => hA.inj f hf g hg (hlF f hf) (hlF g hg)) hR hE; have hp0 : q1q effs listed k = 0 := by
      rw [qh2 (j := 0) (fun i _ he => hne i he) k (Yr _)]; rfl
    have hHq : H listed = q := by simp only [H, hp0]; exact Nat.max_eq_right (Yr _)
    obtain ⟨g1, g2⟩ := hrel q hpq (Xa _); refine phase2 fuel listed a w β' (relE dd (Fn q) (ns p) E) hsz hcnt hcl ?_ ?_ ?_ (fun f hf => (Xj.1 hf).elim (hall.1 f) (hall.2 f))
    . rw [hHq, g1, g2]; exact hR'
    . rw [hHq, g1, g2]; exact hE'
    . intro t
      rcases hrelE E t q (Xa _) with ⟨f, c1, c2, c3, c4⟩ | ⟨c1, c2⟩
      . have hfk : f < k := Xi (hfq f c2) hqk
        refine .inl ⟨f, by omega, hall.1 f c2, by rw [hdd f c2, c3], fun i hfi hik hl => ?_, c4⟩; have hlk := (hcl i _ (Xh hik) hl).1; obtain ⟨d, d1, d2⟩ := hAl f c2; have hdf : dd f = d := by simp only [dd, d1, Xo]
        rw [<- c3, hdf]; exact (d2 i hlk (by omega)).1
      . rcases hI t with ⟨i, b1, b2, b3, b4, b5⟩ | ⟨b1, b2⟩
        . have hna : i ∉ allocs := fun ha => c1 i (hfq i ha) ha (by have := hdd i ha; rw [b3] at this; exact (Yh this).symm)
          refine .inl ⟨i, b1, b2, b3, b4, ?_⟩; rw [c2, b5]; simp only [r1, if_neg hna]
        . exact .inr ⟨b1, by rw [c2, b2]⟩
  . exact Yg (List.length_filter_le _ _) (by simp)
  . intro i oi _ hL
    simp [X9] at hL
    split at hL <;> simp at hL
  . have hrp : ∀ i, (Yi ops.size false).getD i false = false := fun i => by
      simp [Xb, X9]; split <;> rfl
    have hB0 : q08 C (q7c (Fn q) (Yi ops.size false) fun _ => 0) = C := z8c fun b => by
      rintro ⟨f, _, hl, _⟩; rw [hrp] at hl; cases hl
    have hH0 : H1 (Yi ops.size false) = 0 := by
      simp only [H1]; rw [qh2 (j := 0) (fun i _ _ => hrp i) p (Yr _)]; rfl
    refine ⟨fun e _ => hrp e, fun t ht' => z1t hkeys t ht', β, fun _ => 0, ?_⟩; rw [hB0, hH0, z1, z2]; exact ⟨hR0, hE0, ⟨(fun f _ hl => by rw [hrp] at hl; cases hl), (fun f _ hl => by rw [hrp] at hl; cases hl), (fun f _ hl => by rw [hrp] at hl; cases hl), (fun f _ g _ hl => by rw [hrp] at hl; cases hl)⟩⟩
  . refine fun t => .inr ⟨fun i _ hL => ?_, rfl⟩
    simp [X9] at hL
    split at hL <;> simp at hL
theorem q3v {P : Program} {ops : Array Oper} {s : St} {K : St -> Prop} (k p q : Nat) (ms tids loose pre effs allocs : List Nat) (hm : P.follows .mixedOrders = true) (hms : qm3 ms 0 ops.toList = true) (hk : k <= ops.size) (htm : z5e ms ops.size k = true) (hc : za6 ops (fun i j => (ms.getD i 0).testBit j) k p q loose pre effs allocs = true) (hkeys : z8o s.nt s.env = true)
  (h : vcA P ops (fun _ => tids) loose (pre ++ effs) allocs (ops.toList.take k) 0 s fun s' => q9n P ops (ops.toList.drop k) s' K) : qv2 P ops s K :=
 j4z k p q ms (fun _ => tids) loose pre effs allocs (Xe.2 fun j _ => by
  simp only [Xc, Xe, decide_eq_true_eq, Xu]; exact ⟨fun _ _ x hx => hx, fun e _ => .inr fun x hx => hx⟩) hm hms hk htm hc hkeys h
end
section
open Go Go.RowKit
def Eqv (a b : Exit -> St -> Prop) : Prop := a = b
section
variable {P : Program} {Q QQ : Exit -> St -> Prop} {s : St} {N : St -> Prop} {a b c x y : Code} {i j : Nat}
theorem z7q (hj : joins a = false) (h : ∀ QQ : Exit -> St -> Prop, Eqv QQ (qt2 P Q b) -> vc P a QQ s) : vc P (.seq a b) Q s := by
 rw [zh9, if_neg (by simp [hj])]; exact h _ rfl
theorem sg (h : ∀ QQ : Exit -> St -> Prop, Eqv QQ (qt2 P Q b) -> vc P a QQ s) (hj : joins a = false := by kernel_rfl) : vc P (.seq a b) Q s := z7q hj h
theorem qt1 (hj : joins a = true) (h : wpV P (.seq a b) Q s) : vc P (.seq a b) Q s := by
 rw [zh9, if_pos hj]; exact h
theorem qy3 (h : ∀ QQ : Exit -> St -> Prop, Eqv QQ (qt2 P Q b) -> vc P a QQ s) : wpV P (.seq a b) Q s := j6s (h _ rfl)
theorem w9 (h : ∀ QQ : Exit -> St -> Prop, Eqv QQ (q8h i Q) -> vc P c QQ s) : vc P (.block i c) Q s := h _ rfl
theorem q8 (hq : Eqv QQ (qt2 P Q b)) (h : vc P b Q s) : QQ .normal s := by unfold Eqv at hq; subst hq; exact h
theorem q1p (hq : Eqv QQ (qt2 P Q b)) (h : Q (.exit i) s) : QQ (.exit i) s := by unfold Eqv at hq; subst hq; exact h
theorem q0s (hq : Eqv QQ (qt2 P Q b)) (h : Q .ret s) : QQ .ret s := by unfold Eqv at hq; subst hq; exact h
theorem q06 (hq : Eqv QQ (q8h i Q)) (h : Q .normal s) : QQ .normal s := by unfold Eqv at hq; subst hq; exact h
theorem q0i (hq : Eqv QQ (q8h i Q)) (h : Q .normal s) : QQ (.exit i) s := by unfold Eqv at hq; subst hq; simp only [q8h, if_true]; exact h
theorem zo9 (hq : Eqv QQ (q8h i Q)) (hij : ¬ j = i) (h : Q (.exit j) s) : QQ (.exit j) s := by unfold Eqv at hq; subst hq; simp only [q8h, if_neg hij]; exact h
theorem q0m (hq : Eqv QQ (q8h i Q)) (h : Q .ret s) : QQ .ret s := by unfold Eqv at hq; subst hq; exact h
theorem u7 (hq : Eqv QQ (q5l N Q)) (h : N s) : QQ .normal s := by unfold Eqv at hq; subst hq; exact h
theorem q0r (hq : Eqv QQ (q5l N Q)) (h : Q (.exit i) s) : QQ (.exit i) s := by unfold Eqv at hq; subst hq; exact h
theorem q2b (hq : Eqv QQ (q5l N Q)) (h : Q .ret s) : QQ .ret s := by unfold Eqv at hq; subst hq; exact h
theorem q49 {b : Bool} {t : Operand} (hc : u6 s.env t = .v (.bool b)) (h1 : b = true -> vc P x Q s) (h2 : b = false -> vc P y Q s) : vc P (.cond t x y) Q s := by
 simp only [vc, hc]; exact ⟨h1, h2⟩
theorem q8z {t : Operand} (hc : u6 s.env t = .v (.bool true)) (h1 : vc P x Q s) : vc P (.cond t x y) Q s := q49 hc (fun _ => h1) (fun h => by cases h)
theorem qv4 {t : Operand} (hc : u6 s.env t = .v (.bool false)) (h1 : vc P y Q s) : vc P (.cond t x y) Q s := q49 hc (fun h => by cases h) (fun _ => h1)
theorem q0c {ops : Array Oper} (h : qv2 P ops s (Q .normal)) : vc P (.region i ops true) Q s := by simp only [vc, if_true]; exact h
theorem y9 (h : Q .normal s) : vc P .skip Q s := h
theorem zq7 {l} (h : Q .normal s) : vc P (.label l) Q s := h
theorem q02 (h : Q .ret s) : vc P .ret Q s := h
theorem q0q (h : Q (.exit i) s) : vc P (.exit i) Q s := h
theorem qx9 (h : wpV P (.loop c) Q s) : vc P (.loop c) Q s := h
theorem z1k {ι : Type} (S : ι -> St) (I : ι -> Prop) (h : ∀ QQ : Exit -> St -> Prop, Eqv QQ (q5l (fun s' => ∃ i l, Le s' (S i) l /\ I i) Q) -> vc P x QQ s) (hk : ∀ i, I i -> vc P y Q (S i)) : wpV P (.seq x y) Q s :=
 j6t S I (h _ rfl) hk
theorem z6z {ι : Type} (S : ι -> St) (I : ι -> Prop) (μ : ι -> Nat) (i0 : ι) (l0 : List (Option Nat)) (h0 : Le s (S i0) l0) (hI : I i0)
  (hr : ∀ i, I i -> ∀ QQ : Exit -> St -> Prop, Eqv QQ (q5l (fun s' => ∃ i' l', Le s' (S i') l' /\ I i' /\ μ i' < μ i) Q) -> vc P c QQ (S i)) : wpV P (.loop c) Q s :=
 zz5 S I μ i0 l0 h0 hI fun i hi => hr i hi _ rfl
end
end
section
open Go Go.RowKit
section
variable {P : Program} {ops : Array Oper} {t : Nat -> List Nat} {l e a : List Nat} {j : Nat} {s : St} {K : St -> Prop}
def vaK (P : Program) (ops : Array Oper) (t : Nat -> List Nat) (l e a : List Nat) (r : List Oper) (j : Nat) (K : St -> Prop) (s : St) : Prop := vcA P ops t l e a r j s K
def vqK (P : Program) (ops : Array Oper) (t : Nat -> List Nat) (l e a : List Nat) (r : List Oper) (j : Nat) (K : St -> Prop) (s : St) (d : Option Nat) (x : AV) : Prop := vcA P ops t l e a r j (s.put d x) K
theorem j85 {r : List Oper} : vaK P ops t l e a r j K s = vcA P ops t l e a r j s K := rfl
theorem j83 {r : List Oper} {d : Option Nat} {x : AV} : vqK P ops t l e a r j K s d x = vcA P ops t l e a r j (s.put d x) K := rfl
theorem j6h : vcA P ops t l e a [] j s K = K s := rfl
theorem j3h {o : Oper} {r : List Oper} : vcA P ops t l e a (o :: r) j s K = if j ∈ a then (o.guard = none /\ s.nx ∈ t j) /\ (match o.op with
   | .alloc ty => match q1i P ty with
    | some zs => vaK P ops t l e a r (j + 1) K (({ s with hp := (s.nx, .box (zs.map AV.v)) :: s.hp, nx := s.nx + 1 } : St).put o.dst (.ptr s.nx 0))
    | none => False
   | _ => False)
  else if j ∈ e then zn3 P ops (t j) o s (vaK P ops t l e a r (j + 1) K)
  else (j ∈ l -> qz0 (t j) (u6 s.env) o.op) /\ qG P ops s o (vqK P ops t l e a r (j + 1) K s o.dst) := rfl
theorem j7f {t : List Nat} {hp : Hp} : zn5 t hp K s = (q47 t s.hp = q47 t hp /\ K s) := rfl
theorem j2q {d : Option Nat} {hp' : Hp} {nx' : Nat} {r : AV} : j2r d s K hp' nx' r = K (({ s with hp := hp', nx := nx' } : St).put d r) := rfl
end
attribute [go_sem] j85 j83 j6h j3h j7f j2q zn3 z5r j99 j9a q47 qz0 Xf List.not_mem_nil
end
section
open Go Go.RowKit
def Ok {α : Type} (x : Option α) (Q : α -> Prop) : Prop := ∃ r, x = some r /\ Q r
section
variable {α β σ R : Type}
theorem Ok.some {a : α} {Q : α -> Prop} (h : Q a) : Ok (some a) Q := ⟨a, rfl, h⟩
theorem Ok.bind {x : Option α} {k : α -> Option β} {Q : β -> Prop} (h : Ok x fun a => Ok (k a) Q) : Ok (q9 x k) Q := by
 obtain ⟨a, rfl, r, h1, h2⟩ := h; exact ⟨r, by simpa [q9] using h1, h2⟩
theorem jh4 {x : Option α} {k : α -> Option β} {P : α -> Prop} {Q : β -> Prop} (h : Ok x P) (hk : ∀ a, P a -> Ok (k a) Q) : Ok (q9 x k) Q := by
 obtain ⟨a, rfl, h⟩ := h; exact Ok.bind ⟨a, rfl, hk a h⟩
theorem Ok.guard {c : Prop} [Decidable c] {k : Option α} {Q : α -> Prop} (hc : c) (h : Ok k Q) : Ok (q03 c k) Q := by
 unfold q03; rw [if_pos hc]; exact h
theorem Ok.mono {x : Option α} {P Q : α -> Prop} (h : Ok x P) (hq : ∀ a, P a -> Q a) : Ok x Q := by
 obtain ⟨a, rfl, h⟩ := h; exact ⟨a, rfl, hq a h⟩
theorem jh5 {b : Bool} {x y : Option α} {Q : α -> Prop} (h1 : b = true -> Ok x Q) (h2 : b = false -> Ok y Q) : Ok (if b = true then x else y) Q := by
 cases b
 . exact h2 rfl
 . exact h1 rfl
theorem Ok.idx {l : List α} {i : Int} {Q : α -> Prop} (h0 : 0 <= i) (h1 : i < l.length) (h : Q (l[i.toNat]'(by omega))) : Ok (Go.Proofs.YteibkihbdgphnaaGreat.idx l i) Q := by
 refine ⟨_, ?_, h⟩; unfold Go.Proofs.YteibkihbdgphnaaGreat.idx; rw [if_pos h0, Xz (by omega)]
theorem Ok.idx' {l : List α} {i : Int} {Q : α -> Prop} (h0 : 0 <= i) (h1 : i < l.length) (h : ∀ x, l[i.toNat]? = .some x -> Q x) : Ok (Go.Proofs.YteibkihbdgphnaaGreat.idx l i) Q :=
 Ok.idx h0 h1 (h _ (Xz (by omega)))
theorem jh6 {l : List α} {i : Nat} {Q : α -> Prop} (h1 : i < l.length) (h : Q l[i]) : Ok (Go.Proofs.YteibkihbdgphnaaGreat.idx l (i : Int)) Q := Ok.idx (by omega) (by omega) (by simpa using h)
theorem Ok.loop {body : (σ -> Option R) -> σ -> Option R} (I : σ -> Prop) (μ : σ -> Nat) {Q : R -> Prop}
  (h : ∀ (rec : σ -> Option R) s, I s -> (∀ s', I s' -> μ s' < μ s -> Ok (rec s') Q) -> Ok (body rec s) Q) : ∀ (n : Nat) (s : σ), I s -> μ s < n -> Ok (q05 body n s) Q
 | 0, _, _, hn => absurd hn (X5 _)
 | n + 1, s, hi, hn => h (q05 body n) s hi fun s' hi' hm => Ok.loop I μ h n s' hi' (by omega)
theorem jh7 {body : (σ -> Option R) -> σ -> Option R} (I : σ -> Prop) (μ : σ -> Nat) {Q : R -> Prop} {s : σ}
  (h : ∀ (rec : σ -> Option R) s, I s -> (∀ s', I s' -> μ s' < μ s -> Ok (rec s') Q) -> Ok (body rec s) Q) (hi : I s) (hm : μ s < rounds) : Ok (q05 body rounds s) Q := Ok.loop I μ h rounds s hi hm
theorem Ok.eq {x : Option α} {a : α} (h : Ok x fun r => r = a) : x = .some a := by
 obtain ⟨r, rfl, rfl⟩ := h; rfl
theorem jh8 {x : Option α} {a : α} {Q : α -> Prop} (h : x = .some a) (hq : Q a) : Ok x Q := ⟨a, h, hq⟩
end
def In (n : Int) : Prop := -9223372036854775808 <= n /\ n < 9223372036854775808
end
section
open Go Go.RowKit
section
variable {α : Type}
def ja6 (s : List α) (f : α -> Option Bool) (rec : Int -> Option Int) : Int -> Option Int :=
 fun t => (if (decide (t < (List.length s : Int))) = true then q9 (idx s t) (fun x => q9 (f x) (fun v => (if v = true then some t else rec (IntKind.i64.wrap (t + 1))))) else some (-1))
def z8t (s : List α) (f : α -> Option Bool) : Option Int := q05 (ja6 s f) rounds 0
def z3t (s : List α) (f : α -> Option Bool) : Option Bool := q9 (z8t s f) fun v => some (decide (0 <= v))
def z4n (p : α -> Bool) (s : List α) : Int := match s.findIdx? p with
 | some i => i
 | none => -1
theorem z6f {p : α -> Bool} : ∀ {s : List α} {i : Nat}, (∀ x ∈ s.take i, p x = false) -> ∀ (h : i < s.length), p s[i] = true -> s.findIdx? p = some i
 | [], _, _, h, _ => by simp at h
 | x :: s, 0, _, _, hp => by simp at hp; simp [Yy, hp]
 | x :: s, i + 1, ht, h, hp => by
  have hx : p x = false := ht x (by simp); rw [Yy, hx]; simp at hp; have := z6f (s := s) (i := i) (fun y hy => ht y (by simp [hy])) (by simpa using h) hp; rw [this]; rfl
theorem zf8 {s : List α} {f : α -> Option Bool} {p : α -> Bool} (hl : s.length < 9223372036854775808) (hf : ∀ x ∈ s, f x = some (p x)) : z8t s f = some (z4n p s) := by
 refine Ok.eq (jh7 (fun t : Int => ∃ i : Nat, t = i /\ i <= s.length /\ ∀ x ∈ s.take i, p x = false) (fun t : Int => s.length - t.toNat) ?_ ⟨0, rfl, by omega, by simp⟩ (by simp [rounds]; omega)); rintro rec t ⟨i, rfl, hi, hp⟩ hr; refine jh5 (fun hc => ?_) (fun hc => ?_)
 .
  simp only [decide_eq_true_eq] at hc; have hlt : i < s.length := by omega
  refine Ok.bind (jh6 hlt (Ok.bind (jh8 (hf _ (Ye hlt)) ?_))); refine jh5 (fun hv => Ok.some ?_) (fun hv => ?_)
  . unfold z4n; rw [z6f hp hlt hv]
  .
   have hw : IntKind.i64.wrap ((i : Int) + 1) = ((i + 1 : Nat) : Int) := by rw [wrap_i64 _ (by omega)]; omega
   rw [hw]; refine hr _ ⟨i + 1, rfl, by omega, fun x hx => ?_⟩ (by simp only [Ym]; omega); rw [X0 hlt, Xj] at hx; rcases hx with hx | hx
   . exact hp x hx
   . simp only [Yl] at hx; rw [hx]; exact hv
 .
  simp only [decide_eq_false_iff_not] at hc; have : i = s.length := by omega
  subst this; refine Ok.some ?_; rw [Y2] at hp; unfold z4n; rw [Yn.2 hp]
theorem zf7 {p : α -> Bool} {s : List α} : decide (0 <= z4n p s) = s.any p := by
 unfold z4n
 cases h : s.findIdx? p with
 | none =>
  have := Yn.1 h; have h2 : s.any p = false := by simpa using this
  simp [h2]
 | some i =>
  obtain ⟨hi, hp, _⟩ := List.findIdx?_eq_some_iff_getElem.1 h; have h2 : s.any p = true := List.any_eq_true.2 ⟨_, Ye hi, hp⟩; simp [h2]
theorem qn9 {s : List α} {f : α -> Option Bool} {p : α -> Bool} (hl : s.length < 9223372036854775808) (hf : ∀ x ∈ s, f x = some (p x)) : z3t s f = some (s.any p) := by
 unfold z3t; rw [zf8 hl hf]; simp only [q9, Option.bind_some, zf7]
end
end
section
open Go Go.RowKit
abbrev GoOwn : Nat -> Prop := own noG [] (fun _ => False)
theorem q0l : ∀ {c1 c2 : List CT} {avs : List AV}, q2y (c1 ++ c2) avs -> ∃ a1 a2, avs = a1 ++ a2 /\ q2y c1 a1 /\ q2y c2 a2
 | [], c2, avs, h => ⟨[], avs, rfl, by simp only [q2y], h⟩
 | c :: c1, c2, avs, h => by
  simp only [Yo, q2y] at h; obtain ⟨a, r, rfl, h1, h2⟩ := h; obtain ⟨a1, a2, rfl, h3, h4⟩ := q0l h2; exact ⟨a :: a1, a2, rfl, by simp only [q2y]; exact ⟨a, a1, rfl, h1, h3⟩, h4⟩
end
section
open Go Go.RowKit
theorem j3o (l : List UInt8) : (enc l).map z00 = l := by
 induction l with
 | nil => rfl
 | cons x l ih =>
  simp only [enc, Xv] at ih ⊢; rw [ih]; simp [z4b, z00]
theorem j6q (l : List UInt8) : (enc l).all z2o = true := by
 induction l with
 | nil => rfl
 | cons x l ih =>
  simp only [enc, Xv, Yu] at ih ⊢; rw [ih]; simp [z4b, z2o]
theorem zt2 (a b : List UInt8) : ((⟨⟨a⟩⟩ : ByteArray) == ⟨⟨b⟩⟩) = (a == b) := by
 show ((⟨a⟩ : Array UInt8) == ⟨b⟩) = (a == b)
 simp
theorem j6p (a b : List UInt8) : ((⟨⟨a⟩⟩ : ByteArray) != ⟨⟨b⟩⟩) = !(a == b) := by rw [bne, zt2]
theorem j3n (a : List UInt8) : (⟨⟨a⟩⟩ : ByteArray).size = a.length := rfl
theorem j3p (a : List UInt8) : (⟨⟨a⟩⟩ : ByteArray).data.toList = a := rfl
theorem j6o (a : List UInt8) : (⟨a.toArray⟩ : ByteArray) = ⟨⟨a⟩⟩ := rfl
attribute [go_sem] z98 j3o j6q zt2 j6p j3n j3p j6o
theorem j0d {P : Program} {ops : Array Oper} {s s' : St} {l : List (Option Nat)} {K : St -> Prop} (hl : Le s s' l) (h : qv2 P ops s' K) : qv2 P ops s K := fun id hok C a w β hR Q' hQ => by
 obtain ⟨β2, hR2, _⟩ := qj4 hR hl; exact h id (by rw [hl.1]; exact hok) C a w β2 hR2 Q' hQ
attribute [go_sem] Int.reduceToNat Int.reduceLT Int.reduceLE Int.reduceBEq Int.reduceEq Int.reduceNeg Int.reduceNegSucc Int.reduceSub Int.reduceAdd Int.reduceMul Int.natCast_zero Int.natCast_one UInt8.reduceToNat Nat.reduceEqDiff Nat.reduceAdd Nat.reduceMul Nat.reduceSub Nat.reduceLeDiff Nat.reduceBEq reduceCtorEq
attribute [go_sem ↓] reduceIte
attribute [bool_to_prop] decide_eq_true_eq decide_eq_false_iff_not Yb Bool.not_eq_false' beq_iff_eq beq_eq_false_iff_ne ne_eq Xc Xu Int.not_lt Int.not_le
end
section
open Go Go.RowKit
theorem j2b {α : Type} {f : α -> AV} {L : List α} {i : Int} {x : α} (h : idx L i = some x) : 0 <= i /\ i < L.length /\ i.toNat < L.length /\ (L.map f)[i.toNat]?.getD .junk = f x := by
 unfold idx at h
 split at h
 .
  rename_i h0
  obtain ⟨hlt, he⟩ := X6.1 h; refine ⟨h0, by omega, hlt, ?_⟩; simp [hlt, he]
 . cases h
theorem qt8 {α : Type} {f : α -> AV} {L : List α} {i : Int} {x : α} (pre post : List AV) (h : idx L i = some x) : 0 <= i /\ i < L.length /\ pre.length + i.toNat < (pre ++ (L.map f ++ post)).length /\ (pre ++ (L.map f ++ post))[pre.length + i.toNat]?.getD .junk = f x := by
 obtain ⟨h0, h1, h2, h3⟩ := j2b (f := f) h; refine ⟨h0, h1, by simp only [Xt, X7]; omega, ?_⟩; rw [X4 (Nat.le_add_right _ _), Yq, X8 (by rw [X7]; exact h2)]; exact h3
theorem j3l {α : Type} [Row α] (l : List α) : enc l = List.take l.length (enc l) := by rw [<- q11, Y2]
mutual
def q21 (ρ : Nat -> Nat) : AV -> AV
 | .ptr id off => .ptr (ρ id) off
 | .apt id sz i off => .apt (ρ id) sz i off
 | .osl id sz off len => .osl (ρ id) sz off len
 | .bsl id off len => .bsl (ρ id) off len
 | .agg cs => .agg (q5h ρ cs)
 | .tup cs => .tup (q5h ρ cs)
 | .clo f cs => .clo f (q5h ρ cs)
 | .grd g a => .grd g (q21 ρ a)
 | .v x => .v x
 | .sl sz xs => .sl sz xs
 | .el sz xs i off => .el sz xs i off
 | .mp id => .mp (ρ id)
 | .erb g => .erb g
 | .junk => .junk
def q5h (ρ : Nat -> Nat) : List AV -> List AV
 | [] => []
 | a :: r => q21 ρ a :: q5h ρ r
end
mutual
def ltA (n : Nat) : AV -> Bool
 | .ptr id _ => decide (id < n)
 | .apt id _ _ _ => decide (id < n)
 | .osl id _ _ _ => decide (id < n)
 | .bsl id _ _ => decide (id < n)
 | .agg cs => ltL n cs
 | .tup cs => ltL n cs
 | .clo _ cs => ltL n cs
 | .grd _ a => ltA n a
 | .v _ => true
 | .sl _ _ => true
 | .el _ _ _ _ => true
 | .mp id => decide (id < n)
 | .erb _ => true
 | .junk => true
def ltL (n : Nat) : List AV -> Bool
 | [] => true
 | a :: r => ltA n a && ltL n r
end
mutual
theorem zd0 {ρ : Nat -> Nat} : ∀ (a : AV), q0k a = true -> q21 ρ a = a
 | .v _, _ => rfl
 | .sl .., _ => rfl
 | .el .., _ => rfl
 | .ptr .., h => by simp [q0k] at h
 | .apt .., h => by simp [q0k] at h
 | .osl .., h => by simp [q0k] at h
 | .bsl .., h => by simp [q0k] at h
 | .mp _, h => by simp [q0k] at h
 | .erb _, _ => rfl
 | .junk, _ => rfl
 | .agg cs, h => by simp only [q0k] at h; simp only [q21, q4w h]
 | .tup cs, h => by simp only [q0k] at h; simp only [q21, q4w h]
 | .clo f cs, h => by simp only [q0k] at h; simp only [q21, q4w h]
 | .grd g a, h => by simp only [q0k] at h; simp only [q21, zd0 a h]
theorem q4w {ρ : Nat -> Nat} : ∀ {as : List AV}, q0f as = true -> q5h ρ as = as
 | [], _ => rfl
 | a :: as, h => by
  simp only [q0f, Xc] at h; simp only [q5h, zd0 a h.1, q4w h.2]
end
mutual
theorem zl4 {n : Nat} : ∀ (a : AV), q0k a = true -> ltA n a = true
 | .v _, _ => rfl
 | .sl .., _ => rfl
 | .el .., _ => rfl
 | .ptr .., h => by simp [q0k] at h
 | .apt .., h => by simp [q0k] at h
 | .osl .., h => by simp [q0k] at h
 | .bsl .., h => by simp [q0k] at h
 | .mp _, h => by simp [q0k] at h
 | .erb _, _ => rfl
 | .junk, _ => rfl
 | .agg cs, h => by simp only [q0k] at h; simp only [ltA, q60 h]
 | .tup cs, h => by simp only [q0k] at h; simp only [ltA, q60 h]
 | .clo f cs, h => by simp only [q0k] at h; simp only [ltA, q60 h]
 | .grd g a, h => by simp only [q0k] at h; simp only [ltA, zl4 a h]
theorem q60 {n : Nat} : ∀ {as : List AV}, q0f as = true -> ltL n as = true
 | [], _ => rfl
 | a :: as, h => by
  simp only [q0f, Xc] at h; simp only [ltL, zl4 a h.1, q60 h.2, Bool.and_self]
end
section
variable {w : World} {β β1 : Ghost} {nx n : Nat} {ow : Nat -> Prop} {ρ : Nat -> Nat}
theorem qe7 {sz b : Nat} {xs : List (List AV)} {o : Nat} (h : q0j w β ow sz b xs o) : q0j w β1 ow sz b xs o := q1r (Agree.refl w ow) sz b (fun _ _ hu => hu) xs o h
mutual
theorem zt4 (hb : ∀ id, id < n -> β1 id = β (ρ id)) : ∀ (a : AV) (u : Value), ltA n a = true -> rep w β nx ow (q21 ρ a) u -> rep w β1 n ow a u
 | .v x, u, _, h => by simpa only [q21, rep] using h
 | .ptr id off, u, hl, h => by
  simp only [ltA, decide_eq_true_eq] at hl; simp only [q21, rep] at h ⊢; obtain ⟨_, b, C, h1, h2⟩ := h; exact ⟨hl, b, C, (hb id hl).trans h1, h2⟩
 | .apt id sz i off, u, hl, h => by
  simp only [ltA, decide_eq_true_eq] at hl; simp only [q21, rep] at h ⊢; obtain ⟨_, b, C, h1, h2⟩ := h; exact ⟨hl, b, C, (hb id hl).trans h1, h2⟩
 | .bsl id off len, u, hl, h => by
  simp only [ltA, decide_eq_true_eq] at hl; simp only [q21, rep] at h ⊢; rw [hb id hl]; exact ⟨hl, h.2⟩
 | .osl id sz off len, u, hl, h => by
  simp only [ltA, decide_eq_true_eq] at hl; simp only [q21, rep] at h ⊢; rw [hb id hl]; exact ⟨hl, h.2⟩
 | .mp id, u, hl, h => by
  simp only [ltA, decide_eq_true_eq] at hl; simp only [q21, rep] at h ⊢; obtain ⟨_, b, C, h1, h2⟩ := h; exact ⟨hl, b, C, (hb id hl).trans h1, h2⟩
 | .erb g, u, _, h => by simpa only [q21, rep] using h
 | .junk, u, _, _ => by simp only [rep]
 | .sl sz xs, u, _, h => by
  simp only [q21, rep] at h ⊢; rcases h with h | ⟨b, o, cap, h1, h2, h3, h4, h5⟩
  . exact .inl h
  . exact .inr ⟨b, o, cap, h1, h2, h3, h4, qe7 h5⟩
 | .el sz xs i off, u, _, h => by
  simp only [q21, rep] at h ⊢; obtain ⟨b, o, h1, h3, h4, h5⟩ := h; exact ⟨b, o, h1, h3, h4, qe7 h5⟩
 | .agg cs, u, hl, h => by
  simp only [ltA] at hl; simp only [q21, rep] at h ⊢; obtain ⟨l, h1, h2⟩ := h; exact ⟨l, h1, qn7 hb cs l hl h2⟩
 | .tup cs, u, hl, h => by
  simp only [ltA] at hl; simp only [q21, rep] at h ⊢; obtain ⟨l, h1, h2⟩ := h; exact ⟨l, h1, qn7 hb cs l hl h2⟩
 | .clo f cs, u, hl, h => by
  simp only [ltA] at hl; simp only [q21, rep] at h ⊢; obtain ⟨l, h1, h2⟩ := h; exact ⟨l, h1, qn7 hb cs l hl h2⟩
 | .grd g a, u, hl, h => by
  simp only [ltA] at hl; simp only [q21, rep] at h ⊢; exact ⟨fun hg => zt4 hb a u hl (h.1 hg), h.2⟩
theorem qn7 (hb : ∀ id, id < n -> β1 id = β (ρ id)) : ∀ (as : List AV) (us : List Value), ltL n as = true -> x9 w β nx ow (q5h ρ as) us -> x9 w β1 n ow as us
 | [], [], _, _ => by simp only [x9]
 | a :: as, u :: us, hl, h => by
  simp only [ltL, Xc] at hl; simp only [q5h, x9] at h ⊢; exact ⟨zt4 hb a u hl.1 h.1, qn7 hb as us hl.2 h.2⟩
 | [], u :: us, _, h => by simp only [q5h, x9] at h
 | a :: as, [], _, h => by simp only [q5h, x9] at h
end
mutual
theorem z6s (hb : ∀ id, id < n -> β (ρ id) = β1 id) (hn : ∀ id, id < n -> ρ id < nx) : ∀ (a : AV) (u : Value), rep w β1 n ow a u -> rep w β nx ow (q21 ρ a) u
 | .v x, u, h => by simpa only [q21, rep] using h
 | .ptr id off, u, h => by
  simp only [q21, rep] at h ⊢; obtain ⟨hl, b, C, h1, h2⟩ := h; exact ⟨hn id hl, b, C, (hb id hl).trans h1, h2⟩
 | .apt id sz i off, u, h => by
  simp only [q21, rep] at h ⊢; obtain ⟨hl, b, C, h1, h2⟩ := h; exact ⟨hn id hl, b, C, (hb id hl).trans h1, h2⟩
 | .bsl id off len, u, h => by
  simp only [q21, rep] at h ⊢; rw [hb id h.1]; exact ⟨hn id h.1, h.2⟩
 | .osl id sz off len, u, h => by
  simp only [q21, rep] at h ⊢; rw [hb id h.1]; exact ⟨hn id h.1, h.2⟩
 | .mp id, u, h => by
  simp only [q21, rep] at h ⊢; obtain ⟨hl, b, C, h1, h2⟩ := h; exact ⟨hn id hl, b, C, (hb id hl).trans h1, h2⟩
 | .erb g, u, h => by simpa only [q21, rep] using h
 | .junk, u, _ => by simp only [q21, rep]
 | .sl sz xs, u, h => by
  simp only [q21, rep] at h ⊢; rcases h with h | ⟨b, o, cap, h1, h2, h3, h4, h5⟩
  . exact .inl h
  . exact .inr ⟨b, o, cap, h1, h2, h3, h4, qe7 h5⟩
 | .el sz xs i off, u, h => by
  simp only [q21, rep] at h ⊢; obtain ⟨b, o, h1, h3, h4, h5⟩ := h; exact ⟨b, o, h1, h3, h4, qe7 h5⟩
 | .agg cs, u, h => by
  simp only [q21, rep] at h ⊢; obtain ⟨l, h1, h2⟩ := h; exact ⟨l, h1, qo9 hb hn cs l h2⟩
 | .tup cs, u, h => by
  simp only [q21, rep] at h ⊢; obtain ⟨l, h1, h2⟩ := h; exact ⟨l, h1, qo9 hb hn cs l h2⟩
 | .clo f cs, u, h => by
  simp only [q21, rep] at h ⊢; obtain ⟨l, h1, h2⟩ := h; exact ⟨l, h1, qo9 hb hn cs l h2⟩
 | .grd g a, u, h => by
  simp only [q21, rep] at h ⊢; exact ⟨fun hg => z6s hb hn a u (h.1 hg), h.2⟩
theorem qo9 (hb : ∀ id, id < n -> β (ρ id) = β1 id) (hn : ∀ id, id < n -> ρ id < nx) : ∀ (as : List AV) (us : List Value), x9 w β1 n ow as us -> x9 w β nx ow (q5h ρ as) us
 | [], [], _ => by simp only [q5h, x9]
 | a :: as, u :: us, h => by
  simp only [q5h, x9] at h ⊢; exact ⟨z6s hb hn a u h.1, qo9 hb hn as us h.2⟩
 | [], u :: us, h => by simp only [x9] at h
 | a :: as, [], h => by simp only [x9] at h
end
def z9n (ρ : Nat -> Nat) : AObj -> AObj
 | .box cs => .box (q5h ρ cs)
 | .arr sz xs => .arr sz xs
 | .con K ex => .con K (q5h ρ ex)
def ltO (n : Nat) : AObj -> Bool
 | .box cs => ltL n cs
 | .arr _ _ => true
 | .con _ ex => ltL n ex
theorem isCon_ren {o : AObj} : q94 (z9n ρ o) = q94 o := by cases o <;> rfl
def q86 (ρ : Nat -> Nat) : Hp -> Hp
 | [] => []
 | p :: r => (ρ p.1, z9n ρ p.2) :: q86 ρ r
def ltH (n : Nat) : Hp -> Bool
 | [] => true
 | p :: r => decide (p.1 < n) && ltO n p.2 && ltH n r
theorem q1g {hp : Hp} {q : Nat × AObj} : q ∈ q86 ρ hp ↔ ∃ p ∈ hp, q = (ρ p.1, z9n ρ p.2) := by
 induction hp with
 | nil => simp [q86]
 | cons p r ih => simp only [q86, Xf, ih, exists_eq_or_imp]
theorem j74 {hp : Hp} (h : ltH n hp = true) : ∀ p ∈ hp, p.1 < n /\ ltO n p.2 = true := by
 induction hp with
 | nil => intro p hp; cases hp
 | cons q r ih =>
  simp only [ltH, Xc, decide_eq_true_eq] at h; intro p hp; rcases Xf.1 hp with rfl | hp
  . exact h.1
  . exact ih h.2 p hp
theorem zy4 (hb : ∀ id, id < n -> β1 id = β (ρ id)) {id : Nat} (hi : β1.inn id = β.inn (ρ id)) (hid : id < n) {o : AObj} (hl : ltO n o = true) (h : q5f w β nx ow (ρ id) (z9n ρ o)) : q5f w β1 n ow id o := by
 cases o with
 | box cs =>
  obtain ⟨b, C, cur, e, h1, h2, h3⟩ := h; exact ⟨b, C, cur, e, (hb id hid).trans h1, h2, qn7 hb _ _ hl h3⟩
 | arr sz xs =>
  rcases h with ⟨h1, h2⟩ | ⟨b, C, cur, e, h1, h2, h3, h4, h5, h6⟩
  . exact .inl ⟨(hb id hid).trans h1, h2⟩
  . exact .inr ⟨b, C, cur, e, (hb id hid).trans h1, h2, h3, h4, h5, qe7 h6⟩
 | con K ex =>
  rcases h with ⟨b, C, us, h1, h2, h3, h4⟩ | ⟨h1, h2, h3⟩
  . exact .inl ⟨b, C, us, (hb id hid).trans h1, h2, by rw [hi]; exact h3, qn7 hb _ _ hl h4⟩
  . exact .inr ⟨(hb id hid).trans h1, h2, by cases ex with | nil => rfl | cons x r => simp [q5h] at h3⟩
theorem zr1 (hb : ∀ id, id < n -> β (ρ id) = β1 id) (hn : ∀ id, id < n -> ρ id < nx) {id : Nat} (hi : β.inn (ρ id) = β1.inn id) (hid : id < n) {o : AObj} (h : q5f w β1 n ow id o) : q5f w β nx ow (ρ id) (z9n ρ o) := by
 cases o with
 | box cs =>
  obtain ⟨b, C, cur, e, h1, h2, h3⟩ := h; exact ⟨b, C, cur, e, (hb id hid).trans h1, h2, qo9 hb hn _ _ h3⟩
 | arr sz xs =>
  rcases h with ⟨h1, h2⟩ | ⟨b, C, cur, e, h1, h2, h3, h4, h5, h6⟩
  . exact .inl ⟨(hb id hid).trans h1, h2⟩
  . exact .inr ⟨b, C, cur, e, (hb id hid).trans h1, h2, h3, h4, h5, qe7 h6⟩
 | con K ex =>
  rcases h with ⟨b, C, us, h1, h2, h3, h4⟩ | ⟨h1, h2, h3⟩
  . exact .inl ⟨b, C, us, (hb id hid).trans h1, h2, by rw [hi]; exact h3, qo9 hb hn _ _ h4⟩
  . subst h3; exact .inr ⟨(hb id hid).trans h1, h2, by simp [q5h]⟩
end
def upR (ρ : Nat -> Nat) (n nx : Nat) (i : Nat) : Nat := if i < n then ρ i else i - n + nx
open Classical in
theorem Spec.ren {P : Program} {f : FuncId} {args : List AV} {hp : Hp} {n : Nat} {Q : AV -> Hp -> Nat -> Prop} (h : Spec P f args hp n Q) (ρ : Nat -> Nat) (nx : Nat) (hρ : ∀ i, i < n -> ρ i < nx) (hinj : ∀ i j, i < n -> j < n -> ρ i = ρ j -> i = j)
  (ha : ltL n args = true) (hh : ltH n hp = true) :
  Spec P f (q5h ρ args) (q86 ρ hp) nx (fun r' hp' nx' => ∃ r h1 n1, Q r h1 n1 /\ r' = q21 (upR ρ n nx) r /\ hp' = q86 (upR ρ n nx) h1 /\ nx' = n1 - n + nx) := by
 intro w β A vs hA hargs hhp hgs
 let β1 : Ghost := ⟨fun i => β (ρ i), fun i => β.inn (ρ i)⟩
 have hb1 : ∀ id, id < n -> β1 id = β (ρ id) := fun _ _ => rfl; have hown : own β1 hp A = own β (q86 ρ hp) A := by
  funext b
  apply propext
  constructor
  .
   rintro (hx | ⟨q, hq, hc⟩)
   . exact .inl hx
   . exact .inr ⟨_, q1g.2 ⟨q, hq, rfl⟩, hc⟩
  .
   rintro (hx | ⟨q, hq, hc⟩)
   . exact .inl hx
   . obtain ⟨p, hp', rfl⟩ := q1g.1 hq; exact .inr ⟨p, hp', hc⟩
 have hmem := j74 hh; have hnd : ∀ (l : Hp), ((q86 ρ l).map (·.1)).Nodup -> (l.map (·.1)).Nodup := by
  intro l
  induction l with
  | nil => intro _; simp
  | cons p r ih =>
   intro h0; simp only [q86, Xv, Yf] at h0 ⊢; refine ⟨fun hm => h0.1 ?_, ih h0.2⟩; obtain ⟨q, hq, he⟩ := Xn.1 hm; exact Xn.2 ⟨_, q1g.2 ⟨q, hq, rfl⟩, by simp only [he]⟩
 have hh1 : HpRel w β1 n A hp := by
  refine ⟨fun p hp' => ?_, fun p hp' => (hmem p hp').1, hnd _ hhp.nd, fun p hp' q hq b c c' h1 h2 => ?_, fun p hp' b c h1 => ?_, fun p hp' hc => ?_, fun p hp' b hb => ?_⟩
  . rw [hown]; exact zy4 hb1 rfl (hmem p hp').1 (hmem p hp').2 (hhp.obj _ (q1g.2 ⟨p, hp', rfl⟩))
  . have := hhp.inj _ (q1g.2 ⟨p, hp', rfl⟩) _ (q1g.2 ⟨q, hq, rfl⟩) b c c' h1 h2; exact hinj _ _ (hmem p hp').1 (hmem q hq).1 this
  . exact hhp.av _ (q1g.2 ⟨p, hp', rfl⟩) b c h1
  . exact hhp.i0 _ (q1g.2 ⟨p, hp', rfl⟩) (isCon_ren.trans hc)
  . obtain ⟨i1, i2, i3, i4⟩ := hhp.ib _ (q1g.2 ⟨p, hp', rfl⟩) b hb; exact ⟨i1, i2, fun q hq => i3 _ (q1g.2 ⟨q, hq, rfl⟩), fun q hq hbq => hinj _ _ (hmem q hq).1 (hmem p hp').1 (i4 _ (q1g.2 ⟨q, hq, rfl⟩) hbq)⟩
 refine (h w β1 A vs hA (by rw [hown]; exact qn7 hb1 _ _ ha hargs) hh1 (hgs.sub fun b ⟨q, hq, hb⟩ => ⟨_, q1g.2 ⟨q, hq, rfl⟩, hb⟩)).mono ?_; rintro e w' ⟨v, r, h1, n1, β1', rfl, hq, hrv, hh', hext⟩
 let ρ' := upR ρ n nx
 let β' : Ghost := ⟨fun j => if j < nx then β j else β1' (j - nx + n), fun j => if hj : ∃ i, i < n /\ ρ i = j then β1'.inn hj.choose else if j < nx then β.inn j else β1'.inn (j - nx + n)⟩
 have hn1 := hext.nx; have hb' : ∀ id, id < n1 -> β' (ρ' id) = β1' id := fun id hid => by
  simp only [β', ρ', upR]
  by_cases hlt : id < n
  . rw [if_pos hlt, if_pos (hρ id hlt)]; exact (hext.gh id hlt).symm
  .
   rw [if_neg hlt, if_neg (by omega)]
   congr 1; omega
 have hbi' : ∀ id, id < n1 -> β'.inn (ρ' id) = β1'.inn id := fun id hid => by
  by_cases hlt : id < n
  . have e : ρ' id = ρ id := if_pos hlt; have hex : ∃ i, i < n /\ ρ i = ρ id := ⟨id, hlt, rfl⟩; rw [e]; exact (dif_pos hex).trans (by rw [hinj _ _ hex.choose_spec.1 hlt hex.choose_spec.2])
  .
   have e : ρ' id = id - n + nx := if_neg hlt; have hex : ¬ ∃ i, i < n /\ ρ i = id - n + nx := fun ⟨i, h1, h2⟩ => by have := hρ i h1; omega
   rw [e]; exact (dif_neg hex).trans ((if_neg (by omega)).trans (by congr 1; omega))
 have hbb' : ∀ id, id < n1 -> ∀ b, bof β' (ρ' id) b ↔ bof β1' id b := fun id hid b => by unfold bof; rw [hb' id hid, hbi' id hid]
 have hn' : ∀ id, id < n1 -> ρ' id < n1 - n + nx := fun id hid => by
  simp only [ρ', upR]
  split
  . rename_i hlt; have := hρ id hlt; omega
  . omega
 have hinj' : ∀ i j, i < n1 -> j < n1 -> ρ' i = ρ' j -> i = j := fun i j hi hj he => by
  simp only [ρ', upR] at he
  split at he <;> split at he
  . rename_i a b; exact hinj i j a b he
  . rename_i a b; have := hρ i a; omega
  . rename_i a b; have := hρ j b; omega
  . omega
 have hown' : own β' (q86 ρ' h1) A = own β1' h1 A := by
  funext b
  apply propext
  constructor
  .
   rintro (hx | ⟨q, hq, hc⟩)
   . exact .inl hx
   . obtain ⟨p, hp', rfl⟩ := q1g.1 hq; exact .inr ⟨p, hp', (hbb' p.1 (hh'.lt p hp') b).1 hc⟩
  .
   rintro (hx | ⟨q, hq, hc⟩)
   . exact .inl hx
   . exact .inr ⟨_, q1g.2 ⟨q, hq, rfl⟩, (hbb' q.1 (hh'.lt q hq) b).2 hc⟩
 have hnd' : ∀ (l : Hp), (∀ p ∈ l, p.1 < n1) -> (l.map (·.1)).Nodup -> ((q86 ρ' l).map (·.1)).Nodup := by
  intro l
  induction l with
  | nil => intro _ _; simp [q86]
  | cons p r ih =>
   intro hl h0; simp only [q86, Xv, Yf] at h0 ⊢; refine ⟨fun hm => h0.1 ?_, ih (fun q hq => hl q (by simp [hq])) h0.2⟩; obtain ⟨q, hq, he⟩ := Xn.1 hm; obtain ⟨p', hp', rfl⟩ := q1g.1 hq; exact Xn.2 ⟨p', hp', hinj' _ _ (hl p' (by simp [hp'])) (hl p (by simp)) he⟩
 refine ⟨v, _, _, _, β', rfl, ⟨r, h1, n1, hq, rfl, rfl, rfl⟩, ?_, ?_, ?_⟩
 . rw [hown']; exact z6s hb' hn' _ _ hrv
 .
  refine ⟨fun q hq => ?_, fun q hq => ?_, hnd' _ hh'.lt hh'.nd, fun p hp q hq b c c' h2 h3 => ?_, fun q hq b c h2 => ?_, fun q hq hc => ?_, fun q hq b hb => ?_⟩
  . obtain ⟨p, hp', rfl⟩ := q1g.1 hq; rw [hown']; exact zr1 hb' hn' (hbi' _ (hh'.lt p hp')) (hh'.lt p hp') (hh'.obj p hp')
  . obtain ⟨p, hp', rfl⟩ := q1g.1 hq; exact hn' _ (hh'.lt p hp')
  . obtain ⟨p', hp', rfl⟩ := q1g.1 hp; obtain ⟨q', hq', rfl⟩ := q1g.1 hq; simp only at h2 h3 ⊢; rw [hb' _ (hh'.lt p' hp')] at h2; rw [hb' _ (hh'.lt q' hq')] at h3; rw [hh'.inj p' hp' q' hq' b c c' h2 h3]
  . obtain ⟨p, hp', rfl⟩ := q1g.1 hq; simp only at h2; rw [hb' _ (hh'.lt p hp')] at h2; exact hh'.av p hp' b c h2
  . obtain ⟨p, hp', rfl⟩ := q1g.1 hq; exact (hbi' _ (hh'.lt p hp')).trans (hh'.i0 p hp' (isCon_ren.symm.trans hc))
  .
   obtain ⟨p, hp', rfl⟩ := q1g.1 hq; simp only at hb; rw [hbi' _ (hh'.lt p hp')] at hb; obtain ⟨i1, i2, i3, i4⟩ := hh'.ib p hp' b hb; refine ⟨i1, i2, fun q hq c hc => ?_, fun q hq hc => ?_⟩
   . obtain ⟨q', hq', rfl⟩ := q1g.1 hq; simp only at hc; rw [hb' _ (hh'.lt q' hq')] at hc; exact i3 q' hq' c hc
   . obtain ⟨q', hq', rfl⟩ := q1g.1 hq; simp only at hc ⊢; rw [hbi' _ (hh'.lt q' hq')] at hc; rw [i4 q' hq' hc]
 .
  refine ⟨by omega, fun j hj => by simp only [β', if_pos hj], fun j hj hnj => ?_, fun q hq => ?_, fun q hq b h2 => ?_, hext.os, hext.tape, hext.output, hext.size, fun b hb hnb => hext.keep b hb ?_⟩
  .
   simp only [β']
   split
   .
    rename_i hex
    rw [hext.gi _ hex.choose_spec.1 fun hm => hnj (by
     obtain ⟨p, hp', he⟩ := Xn.1 hm; exact Xn.2 ⟨_, q1g.2 ⟨p, hp', rfl⟩, by rw [he]; exact hex.choose_spec.2⟩)]
    show β.inn (ρ _) = _
    rw [hex.choose_spec.2]
   . first | rfl | rw [if_pos hj]
  .
   obtain ⟨p, hp', rfl⟩ := q1g.1 hq; rcases hext.ids p hp' with h2 | h2
   . obtain ⟨p0, hp0, he⟩ := Xn.1 h2; refine .inl (Xn.2 ⟨_, q1g.2 ⟨p0, hp0, rfl⟩, ?_⟩); have hlt := (hmem p0 hp0).1; simp only [ρ', upR]; rw [he] at hlt; rw [if_pos hlt, he]
   . refine .inr ?_; simp only [ρ', upR]; rw [if_neg (by omega)]; omega
  .
   obtain ⟨p, hp', rfl⟩ := q1g.1 hq; rcases hext.blk p hp' b ((hbb' _ (hh'.lt p hp') b).1 h2) with ⟨q0, hq0, hc0⟩ | h3
   . exact .inl ⟨_, q1g.2 ⟨q0, hq0, rfl⟩, hc0⟩
   . exact .inr h3
  . rintro ⟨q, hq, hc⟩; exact hnb ⟨_, q1g.2 ⟨q, hq, rfl⟩, hc⟩
def j0r (r : AV) (hp : Hp) (n : Nat) (r' : AV) (hp' : Hp) (n' : Nat) : Prop := r' = r /\ hp' = hp /\ n' = n
def DetS (P : Program) (f : FuncId) (args : List AV) (hp : Hp) (n : Nat) (r : AV) (hp' : Hp) (n' : Nat) : Prop := Spec P f args hp n (j0r r hp' n')
def ofL (l : List Nat) (i : Nat) : Nat := l.getD i 0
def nodupB : List Nat -> Bool
 | [] => true
 | x :: r => !(r.contains x) && nodupB r
def z1e : List Nat -> Hp -> Hp
 | [], hp => hp
 | i :: r, hp => z1e r (q41 hp i)
def zm5 : Hp -> Hp -> Prop
 | [], _ => True
 | p :: r, hp => q0e hp p.1 = some p.2 /\ zm5 r (q41 hp p.1)
theorem zy6 {hp : Hp} {id : Nat} (h : (hp.map (·.1)).Nodup) : ((q41 hp id).map (·.1)).Nodup := h.sublist (sub_delO.map _)
theorem zd4 : ∀ {ps hp : Hp}, (hp.map (·.1)).Nodup -> zm5 ps hp -> hp.Perm (ps ++ z1e (ps.map (·.1)) hp)
 | [], hp, _, _ => by simp [z1e]
 | p :: r, hp, hn, h => by
  have h1 := (zd3 (o' := p.2) h.1 hn).1; have h2 := zd4 (zy6 hn) h.2; exact h1.trans (by simpa [z1e] using h2.cons (p.1, p.2))
theorem z8k : ∀ {l : List Nat}, nodupB l = true -> ∀ i j, i < l.length -> j < l.length -> l.getD i 0 = l.getD j 0 -> i = j
 | [], _, i, j, hi, _, _ => by simp at hi
 | x :: r, h, i, j, hi, hj, he => by
  simp only [nodupB, Xc, Yb] at h; have hx : ∀ k, k < r.length -> r.getD k 0 ≠ x := fun k hk e => by
   have hm : x ∈ r := by
    rw [<- e, Xx, Xz hk]; exact Ye hk
   have := Ys.2 hm; rw [this] at h; exact absurd h.1 (by simp)
  cases i with
  | zero => cases j with
   | zero => rfl
   | succ j =>
    simp only [Yv, Yk] at he; exact absurd he.symm (hx j (by simpa using hj))
  | succ i => cases j with
   | zero =>
    simp only [Yv, Yk] at he; exact absurd he (hx i (by simpa using hi))
   | succ j =>
    simp only [Yk] at he; rw [z8k h.2 i j (by simpa using hi) (by simpa using hj) he]
theorem q4t {P : Program} {s : St} {f : FuncId} {args args0 : List AV} {K : St -> AV -> Prop} {hp0 hp1 H : Hp} {n n1 N : Nat} {r0 R : AV} (l : List Nat) (h : DetS P f args0 hp0 n r0 hp1 n1) (hn : (s.hp.map (·.1)).Nodup) (ha : args = q5h (ofL l) args0)
  (hh : zm5 (q86 (ofL l) hp0) s.hp) (hk : (decide (l.length = n) && nodupB l && (l.all fun i => decide (i < s.nx)) && ltL n args0 && ltH n hp0) = true)
  (hR : q21 (upR (ofL l) n s.nx) r0 = R) (hH : q86 (upR (ofL l) n s.nx) hp1 ++ z1e ((q86 (ofL l) hp0).map (·.1)) s.hp = H) (hN : n1 - n + s.nx = N) (hK : K { s with hp := H, nx := N } R) : q8l P s f args K := by
 simp only [Xc, decide_eq_true_eq, Xe] at hk; obtain ⟨⟨⟨⟨k1, k2⟩, k3⟩, k4⟩, k5⟩ := hk; subst ha hR hH hN; refine z3o (zd4 hn hh) (Spec.ren h (ofL l) s.nx (fun i hi => ?_) (fun i j hi hj he => z8k k2 i j (by omega) (by omega) he) k4 k5) ?_
 . refine k3 _ ?_; unfold ofL; rw [Xx, Xz (by omega)]; exact Ye _
 . rintro r' hp' nx' ⟨r, h1, n1', ⟨rfl, rfl, rfl⟩, rfl, rfl, rfl⟩; exact hK
theorem q1w {s : St} {r r' : AV} {hp' : Hp} {n' : Nat} (l : List (Option Nat)) (h : Le s ⟨s.nb, [], hp', n', s.nt⟩ l /\ AvLe (q6a s.nb l) s.hp (fun j => q90 (q6a s.nb l) j hp') n' r r') : z0b s r (j0r r' hp' n') :=
 ⟨l, _, _, _, h.1, h.2, rfl, rfl, rfl⟩
theorem DetS.pure {P : Program} {f : FuncId} {args : List AV} {r r' : AV} {hp' : Hp} {n' : Nat} (h : DetS P f args [] 0 r hp' n') (hl : AvLe (fun _ => none) hp' (fun _ => True) 0 r r') : PureS P f args 0 r' := by
 intro w β A vs hA hargs hhp hgs; refine (h w β A vs hA hargs hhp hgs).mono ?_; rintro e w' ⟨v, r0, hp0, n0, β', rfl, ⟨e1, e2, e3⟩, hr, hh, hext⟩; subst e1 e2 e3; refine ⟨v, _, _, _, β, rfl, ⟨rfl, rfl, rfl⟩, ?_, HpRel.nil, ?_⟩
 .
  refine q2o (β := β') (β' := β) (nx' := 0) (rn := fun _ => none) (gone := fun _ => True) (hp := hp0) (A := A) ?_ hh (fun id hid => absurd hid (X5 _)) ?_ _ _ _ hl hr
  . refine ⟨Xa _, fun b hb _ => ⟨rfl, ?_⟩⟩; rw [qt6]; exact fun hx => hb (.inl hx)
  . intro j _ o ho b C hb; rw [qt6]; exact hh.av _ ho b C hb
 . exact { nx := Xa _, gh := fun _ _ => rfl, gi := fun _ _ _ => rfl, ids := fun p hp => (by cases hp), blk := fun p hp => (by cases hp), os := hext.os, tape := hext.tape, output := hext.output, size := hext.size, keep := hext.keep }
theorem z1f {P : Program} {nb : Nat} {hp : Hp} {nx : Nat} {f : FuncId} {args args0 : List AV} {KK : Hp -> Nat -> AV -> Prop} {hp0 hp1 H : Hp} {n n1 N : Nat} {r0 R : AV} (l : List Nat) (h : DetS P f args0 hp0 n r0 hp1 n1) (ha : args = q5h (ofL l) args0)
  (hh : zm5 (q86 (ofL l) hp0) hp) (hk : (decide (l.length = n) && nodupB l && (l.all fun i => decide (i < nx)) && ltL n args0 && ltH n hp0) = true)
  (hR : q21 (upR (ofL l) n nx) r0 = R) (hH : q86 (upR (ofL l) n nx) hp1 ++ z1e ((q86 (ofL l) hp0).map (·.1)) hp = H) (hN : n1 - n + nx = N) (hK : KK H N R) : j60 P nb hp nx f args KK :=
 ⟨H, N, R, fun s K' _ e1 e2 hn hk' => by subst e1 e2; exact q4t l h hn ha hh hk hR hH hN hk', hK⟩
mutual
def q6m : AV -> Bool
 | .v _ => true
 | .agg cs => z4i cs
 | .tup cs => z4i cs
 | _ => false
def z4i : List AV -> Bool
 | [] => true
 | a :: r => q6m a && z4i r
end
mutual
theorem zc6 {w w' : World} {β β' : Ghost} {nx nx' : Nat} {ow ow' : Nat -> Prop} : ∀ (a : AV) (u : Value), q6m a = true -> rep w β nx ow a u -> rep w' β' nx' ow' a u
 | .v x, u, _, h => by simpa only [rep] using h
 | .agg cs, u, hp, h => by
  simp only [q6m] at hp; simp only [rep] at h ⊢; obtain ⟨l, h1, h2⟩ := h; exact ⟨l, h1, z2u cs l hp h2⟩
 | .tup cs, u, hp, h => by
  simp only [q6m] at hp; simp only [rep] at h ⊢; obtain ⟨l, h1, h2⟩ := h; exact ⟨l, h1, z2u cs l hp h2⟩
 | .ptr .., u, hp, _ => by simp [q6m] at hp
 | .apt .., u, hp, _ => by simp [q6m] at hp
 | .sl .., u, hp, _ => by simp [q6m] at hp
 | .osl .., u, hp, _ => by simp [q6m] at hp
 | .bsl .., u, hp, _ => by simp [q6m] at hp
 | .el .., u, hp, _ => by simp [q6m] at hp
 | .clo .., u, hp, _ => by simp [q6m] at hp
 | .grd .., u, hp, _ => by simp [q6m] at hp
 | .mp _, u, hp, _ => by simp [q6m] at hp
 | .erb _, u, hp, _ => by simp [q6m] at hp
 | .junk, u, hp, _ => by simp [q6m] at hp
theorem z2u {w w' : World} {β β' : Ghost} {nx nx' : Nat} {ow ow' : Nat -> Prop} : ∀ (as : List AV) (us : List Value), z4i as = true -> x9 w β nx ow as us -> x9 w' β' nx' ow' as us
 | [], [], _, _ => by simp only [x9]
 | a :: as, u :: us, hp, h => by
  simp only [z4i, Xc] at hp; simp only [x9] at h ⊢; exact ⟨zc6 a u hp.1 h.1, z2u as us hp.2 h.2⟩
 | [], u :: us, _, h => by simp only [x9] at h
 | a :: as, [], _, h => by simp only [x9] at h
end
theorem j61 {P : Program} {s s' : St} {f : FuncId} {args args' : List AV} {K : St -> AV -> Prop} {r : AV} {l : List (Option Nat)} (hl : Le s s' l) (ha : AvLe.AvLeL (q6a s.nb l) s.hp (fun j => q90 (q6a s.nb l) j s'.hp) s'.nx args args')
  (h : PureS P f args' 0 r) (hf : q0f args' = true) (hr : q6m r = true) (hk : K s r) : q8l P s f args K := by
 intro C a w β vs hR hargs; obtain ⟨β', hR', h3⟩ := qj4 hR hl; have h4 : x9 w β' s'.nx (own β' s'.hp C.A) args' vs := by
  clear h hf
  induction args generalizing args' vs with
  | nil => cases args' <;> cases vs <;> simp only [AvLe.AvLeL, x9] at ha hargs ⊢
  | cons x xs ih =>
   cases args' with
   | nil => simp only [AvLe.AvLeL] at ha
   | cons y ys =>
    cases vs with
    | nil => simp only [x9] at hargs
    | cons v vs =>
     simp only [AvLe.AvLeL] at ha; simp only [x9] at hargs ⊢; exact ⟨h3 _ _ _ ha.1 hargs.1, ih ha.2 vs hargs.2⟩
 have hown : own β' [] (own β' s'.hp C.A) = own β' s'.hp C.A := qt6; have hS := h.up hf s'.nx; refine (hS w β' (own β' s'.hp C.A) vs ?_ (by rw [hown]; exact h4) HpRel.nil ((hR'.gs.ext hR'.ext).sub fun _ ⟨_, hq, _⟩ => by cases hq)).mono ?_
 .
  rintro b (hx | ⟨q, hq, hc⟩)
  . exact hR'.alt b hx
  . exact hR'.hp.bofLt q hq b hc
 . rintro e w' ⟨v, r', hp', nx', β2, rfl, ⟨rfl, rfl, rfl⟩, hrv, _, hext⟩; have hst : Still w w' := ⟨hext.os, hext.tape, hext.output, hext.size, fun b hb => hext.keep b hb fun ⟨q, hq, _⟩ => by cases hq⟩; exact ⟨v, _, s, β, rfl, hR.still hst, zc6 _ _ hr hrv, hk⟩
attribute [go_sem] q21 q5h z9n q86 upR ofL z1e List.length_set Nat.reduceLT Nat.reduceGT X5 Nat.sub_zero
example : (if (2 : Nat) < 0 then (0 : Nat) else 2 - 0 + 3) = 5 := by simp only [go_sem]
example : (if (2 : Nat) < 3 then (0 : Nat) else 2) = 0 := by simp only [go_sem]
example : (if (2 : Nat) < 2 then (0 : Nat) else 2) = 2 := by simp only [go_sem]
example : (if (4 : Nat) = 2 then (0 : Nat) else 2) = 2 := by simp only [go_sem]
end
section
open Go Go.RowKit
def j90 (K : St -> AV -> Prop) (s : St) (r : AV) (hp' : Hp) (nx' : Nat) : Prop := K { s with hp := hp', nx := nx' } r
theorem q2g {K : St -> AV -> Prop} {s : St} {r : AV} {hp' : Hp} {nx' : Nat} (h : K { s with hp := hp', nx := nx' } r) : j90 K s r hp' nx' := h
theorem q7b {P : Program} {s : St} {f : FuncId} {fn : Func} {c : Code} {args : List AV} {K : St -> AV -> Prop} (hf : P.funcs[f]? = some fn) (hb : fn.body = some c) (hok : okB fn.ntmps c = true)
  (hlen : (decide (args.length <= fn.ntmps) && !(fn.name == "runtime.NumGoroutine")) = true) (hv : vc P c (z1m P fn.results.toList (j90 K s)) ⟨s.nx, ql2 args 0, s.hp, s.nx, fn.ntmps⟩) : q8l P s f args K :=
 z3o (hp1 := s.hp) (hp2 := []) (by simp) (Spec.of_vc hf hb hok hlen hv) (fun r hp' nx' h => by
  rw [List.append_nil]; exact h)
theorem q1t {s : St} {r : AV} {Q : AV -> Hp -> Nat -> Prop} (l : List (Option Nat)) (hp' : Hp) (nx' : Nat) (r' : AV) (h : Le s ⟨s.nb, [], hp', nx', s.nt⟩ l /\ AvLe (q6a s.nb l) s.hp (fun j => q90 (q6a s.nb l) j hp') nx' r r') (hq : Q r' hp' nx') : z0b s r Q :=
 ⟨l, hp', nx', r', h.1, h.2, hq⟩
theorem zp6 {α : Type} [Row α] (l : List α) (k : Nat) : TL (enc l) (enc (l.take k)) := by
 rw [<- z3m]; exact j7o _ _
theorem j7r {α : Type} [Row α] (a b : List α) (k : Nat) : TL (enc a ++ enc b) (enc ((a ++ b).take k)) := by rw [<- q5b]; exact zp6 _ _
theorem j7q {α : Type} [Row α] (a b c : List α) (k : Nat) : TL (enc a ++ enc b ++ enc c) (enc ((a ++ b ++ c).take k)) := by rw [<- q5b, <- q5b]; exact zp6 _ _
theorem qh5 {α : Type} [Row α] {L : List α} {o k : Nat} {i : Int} {x : α} (h : idx ((L.drop o).take k) i = some x) : 0 <= i /\ i < (k : Int) /\ o + i.toNat < L.length /\ q30 (enc L) (o + i.toNat) = Row.row x := by
 unfold idx at h
 split at h
 .
  rename_i h0
  obtain ⟨hlt, he⟩ := X6.1 h; rw [Yp, List.length_drop] at hlt; refine ⟨h0, by omega, by omega, ?_⟩; rw [List.getElem_take, List.getElem_drop] at he; have hl : o + i.toNat < L.length := by omega
  simp [q30, enc, hl, he]
 . cases h
theorem z8a {α : Type} {f : α -> AV} (pre post : List AV) (xs ys : List α) (n : Nat) (y : α) (h : n < xs.length) (hy : ys = xs.mapIdx (fun j c => if n = j then y else c)) :
  q69 (pre ++ (xs.map f ++ post)) (pre.length + n) [f y] = pre ++ (ys.map f ++ post) := by
 have e : ys = xs.set n y := by
  rw [hy]; apply List.ext_getElem
  . simp
  . intro j h1 h2; simp only [List.getElem_mapIdx, List.getElem_set]
 rw [e]; unfold q69; rw [List.take_append, List.take_of_length_le (by omega : pre.length <= pre.length + n), Yq, List.drop_append, List.drop_of_length_le (by simp; omega), List.nil_append]; have e3 : pre.length + n + [f y].length - pre.length = n + 1 := by simp; omega
 rw [e3, List.take_append_of_le_length (by rw [X7]; omega), List.drop_append_of_le_length (by rw [X7]; omega)]; have e4 : (xs.set n y).map f = (xs.map f).take n ++ [f y] ++ (xs.map f).drop (n + 1) := by
  rw [List.map_set, List.set_eq_take_append_cons_drop, if_pos (by rw [X7]; exact h)]; simp
 rw [e4]; simp [X1]
end
section
open Go
theorem sM {P : Program} {a b : Code} {Q : Exit -> St -> Prop} {s s' : St} (h : vc P b Q s') (hj : joins a = false := by kernel_rfl) (e : ∀ QQ : Exit -> St -> Prop, vc P a QQ s = QQ .normal s' := by (intro QQ; conv => lhs; simp only [go_sem])) : vc P (.seq a b) Q s := sg (fun QQ hq => (e QQ).symm ▸ q8 hq h) hj
end
section
open Go Go.RowKit
def zg9 (w : World) (ow : Nat -> Prop) (g : Option Nat) (a : AV) (u : Value) : Prop :=
 ∃ isz xs, a = .sl isz xs /\ ((g = none /\ xs = [] /\ u = .slice none 0 0) \/ ∃ b c cap cur e, g = some b /\ u = .slice (some ⟨b, 0, none⟩) xs.length cap /\ w.heap[b]? = some (.cells cur e (0, 0)) /\ cur.size = c * isz /\ xs.length <= cap /\ cap <= c /\ c <= maxLen /\ q0j w noG ow isz b xs 0)
def zx0 (w : World) (ow : Nat -> Prop) (j : Nat) (g : Option Nat) (r : List AV) (us : List Value) : Prop :=
 r.length = us.length /\ ∀ (k : Nat) a u, r[k]? = some a -> us[k]? = some u -> u.oneCell' = true /\ (k = j -> zg9 w ow g a u) /\ (k ≠ j -> rep w noG 0 ow a u)
def atR (cs : List Value) (sz i : Nat) : List Value := (cs.drop (i * sz)).take sz
def je2 (sz j : Nat) (R : List (List AV)) (hole : Option Nat) (w : World) (b C : Nat) (L : List Nat) (ow : Nat -> Prop) (us : List Value) : Prop :=
 ∃ (cs : List Value) (e : TypeId) (gs : Nat -> Option Nat), w.heap[b]? = some (.cells ⟨cs⟩ e (0, 0)) /\ cs.length = C * sz /\ R.length <= C /\ C <= maxLen /\
  (∀ i i' g, gs i = some g -> gs i' = some g -> i = i') /\ (∀ i g, gs i = some g -> g ∈ L /\ i < R.length) /\
  (∀ i r, R[i]? = some r -> hole ≠ some i -> zx0 w ow j (gs i) r (atR cs sz i)) /\
  ((hole = none /\ us = []) \/ ∃ i, hole = some i /\ i < R.length /\ gs i = none /\ atR cs sz i = us /\ us.length = sz)
section
variable {w w' : World} {ow ow' : Nat -> Prop} {β β' : Ghost}
theorem qp0 (hA : Agree w w' ow ow') {a : AV} {u : Value} (h : rep w β 0 ow a u) : rep w' β' 0 ow' a u := q4v hA 0 0 (Xa _) (fun _ hi => absurd hi (X5 _)) a u h
theorem z8r (hA : Agree w w' ow ow') {g : Option Nat} (hg : ∀ b, g = some b -> w'.heap[b]? = w.heap[b]?) {a : AV} {u : Value} : zg9 w ow g a u -> zg9 w' ow' g a u := by
 rintro ⟨isz, xs, rfl, h | ⟨b, c, cap, cur, e, h1, h2, h3, h4⟩⟩
 . exact ⟨isz, xs, rfl, .inl h⟩
 . obtain ⟨h4, h5, h6, h7, h8⟩ := h4; exact ⟨isz, xs, rfl, .inr ⟨b, c, cap, cur, e, h1, h2, (hg b h1).trans h3, h4, h5, h6, h7, q1r hA isz b (fun o u hu => (World.cell?_of_block (w := w) (a := ⟨b, o, none⟩) (hg b h1)).trans hu) xs 0 h8⟩⟩
theorem z7w (hA : Agree w w' ow ow') {g : Option Nat} (hg : ∀ b, g = some b -> w'.heap[b]? = w.heap[b]?) {j : Nat} {r : List AV} {us : List Value} (h : zx0 w ow j g r us) : zx0 w' ow' j g r us :=
 ⟨h.1, fun k a u h1 h2 => let ⟨h3, h4, h5⟩ := h.2 k a u h1 h2
  ⟨h3, fun hk => z8r hA hg (h4 hk), fun hk => qp0 hA (h5 hk)⟩⟩
theorem zv6 {cs : List Value} {sz i k : Nat} : (atR cs sz i)[k]? = if k < sz then cs[i * sz + k]? else none := by
 unfold atR; rw [Yx, List.getElem?_drop]
theorem j2v {cs : List Value} {sz i : Nat} : cs.take (i * sz) ++ atR cs sz i ++ cs.drop (i * sz + sz) = cs := by
 unfold atR; rw [X1, <- List.drop_drop, Yt, Yt]
theorem zk9 {i i' sz : Nat} (h : i < i') : i * sz + sz <= i' * sz := by
 have := Yj sz (show i + 1 <= i' from h); rw [Nat.add_mul, Nat.one_mul] at this; exact this
theorem j2w {hd us us' tl : List Value} {sz i i' : Nat} (h1 : hd.length = i * sz) (h2 : us.length = sz) (h3 : us'.length = us.length) (hne : i' ≠ i) : atR (hd ++ us' ++ tl) sz i' = atR (hd ++ us ++ tl) sz i' := by
 apply List.ext_getElem?; intro k; rw [zv6, zv6]
 split
 .
  rename_i hk
  rcases Nat.lt_or_gt_of_ne hne with hlt | hgt
  . have := zk9 (sz := sz) hlt; rw [X1, X1, X8 (by omega), X8 (by omega)]
  . have := zk9 (sz := sz) hgt; rw [X4 (by simp only [Xt]; omega), X4 (by simp only [Xt]; omega)]; simp only [Xt, h3]
 . rfl
theorem j58 {hd us tl : List Value} {sz i : Nat} (h1 : hd.length = i * sz) (h2 : us.length = sz) : atR (hd ++ us ++ tl) sz i = us := by
 unfold atR; rw [X1, <- h1, List.drop_left, <- h2, List.take_left]
end
def zx4 (sz j : Nat) (R : List (List AV)) (hole : Option Nat) : Con where
 k := hole.map (· * sz)
 P := je2 sz j R hole
 N := R = [] /\ hole = none
 mono := fun hA hk ⟨cs, e, gs, h1, h2, h3, h4, h5, h6, h7, h8⟩ => ⟨cs, e, gs, (hk _ (.inl rfl)).trans h1, h2, h3, h4, h5, h6, fun i r hr hh => z7w hA (fun b hb => hk b (.inr (h6 i b hb).1)) (h7 i r hr hh), h8⟩
 cells := fun {w b C L ow us n} hn ⟨cs, e, gs, h1, h2, h3, h4, h5, h6, h7, h8⟩ => by
  rcases h8 with ⟨rfl, _⟩ | ⟨i, rfl, hi, _, rfl, h9⟩
  . cases hn
  . simp only [Y3, Xd] at hn; subst hn; refine ⟨cs.take (i * sz), cs.drop (i * sz + sz), e, ?_, by rw [j2v]; exact h1⟩; have h10 := Yj sz (show i + 1 <= C by omega); rw [Yp, h2]; exact Nat.min_eq_left (Yj sz (by omega))
 wr := fun {w w' b C L ow ow' us us' hd tl T n} hn hl ⟨cs, e, gs, h1, h2, h3, h4, h5, h6, h7, h8⟩ h9 h10 h11 h12 hA => by
  rcases h8 with ⟨rfl, _⟩ | ⟨i, rfl, hi, h13, h14, h15⟩
  . cases hn
  . simp only [Y3, Xd] at hn; subst hn; rw [h1] at h9; simp only [Xd, Obj.cells.injEq, Array.mk.injEq, and_true] at h9; obtain ⟨rfl, rfl⟩ := h9; refine ⟨hd ++ us' ++ tl, e, gs, h11, by simp only [Xt] at h2 ⊢; omega, h3, h4, h5, h6, fun i' r hr hh => ?_, .inr ⟨i, rfl, hi, h13, j58 hl (by omega), by omega⟩⟩; have hne : i' ≠ i := fun e => hh (by rw [e]); rw [j2w hl h15 h10 hne]; exact z7w hA (fun b hb => h12 b (h6 i' b hb).1) (h7 i' r hr hh)
theorem j8m {sz j : Nat} {R : List (List AV)} {i : Nat} : (zx4 sz j R (some i)).k = some (i * sz) := rfl
theorem j6y {sz j : Nat} {R : List (List AV)} : (zx4 sz j R none).k = none := rfl
theorem j43 {sz j : Nat} {R : List (List AV)} {h : Option Nat} : (zx4 sz j R h).raw = false := rfl
theorem j8n {sz j : Nat} {R : List (List AV)} {h : Option Nat} : (zx4 sz j R h).N = (R = [] /\ h = none) := rfl
theorem HpRel.re {w : World} {β β' : Ghost} {nx nx' : Nat} {A : Nat -> Prop} {hp hp' : Hp} (h : HpRel w β nx A hp) (hlt : ∀ p ∈ hp', p.1 < nx') (hnd : (hp'.map (·.1)).Nodup)
  (hbof : ∀ p ∈ hp', ∀ b, bof β' p.1 b -> ∃ q ∈ hp, bof β q.1 b) (hinj : ∀ p ∈ hp', ∀ q ∈ hp', ∀ b, bof β' p.1 b -> bof β' q.1 b -> p.1 = q.1) (hib : ∀ p ∈ hp', ∀ b ∈ β'.inn p.1, ∀ C, β' p.1 ≠ some (b, C))
  (hi0 : ∀ p ∈ hp', q94 p.2 = false -> β'.inn p.1 = []) (hobj : ∀ p ∈ hp', q5f w β' nx' (own β' hp' A) p.1 p.2) : HpRel w β' nx' A hp' where
 obj := hobj
 lt := hlt
 nd := hnd
 inj p hp q hq b C C' h1 h2 := hinj p hp q hq b (.inl ⟨C, h1⟩) (.inl ⟨C', h2⟩)
 av p hp b C h1 := let ⟨q, hq, hb⟩ := hbof p hp b (.inl ⟨C, h1⟩)
  h.bofAv q hq b hb
 i0 := hi0
 ib p hp b hb := by
  obtain ⟨q, hq, hb2⟩ := hbof p hp b (.inr hb); refine ⟨h.bofLt q hq b hb2, h.bofAv q hq b hb2, fun q hq C hc => ?_, fun q hq hc => hinj q hq p hp b (.inr hc) (.inr hb)⟩; have := hinj q hq p hp b (.inl ⟨C, hc⟩) (.inr hb); rw [this] at hc; exact hib p hp b hb C hc
theorem z7z {w : World} {β : Ghost} {nx : Nat} {ow : Nat -> Prop} : ∀ {as : List AV} {us : List Value}, as.length = us.length -> (∀ (k : Nat) a u, as[k]? = some a -> us[k]? = some u -> rep w β nx ow a u) -> x9 w β nx ow as us
 | [], [], _, _ => by simp only [x9]
 | a :: as, u :: us, hl, h => by
  simp only [x9]; exact ⟨h 0 a u rfl rfl, z7z (by simpa using hl) fun k a' u' h1 h2 => h (k + 1) a' u' (by simpa using h1) (by simpa using h2)⟩
 | [], _ :: _, hl, _ => by simp at hl
 | _ :: _, [], hl, _ => by simp at hl
theorem j1k {w : World} {β : Ghost} {nx : Nat} {ow : Nat -> Prop} {as : List AV} {us : List Value} (h : x9 w β nx ow as us) {k : Nat} {a : AV} {u : Value} (h1 : as[k]? = some a) (h2 : us[k]? = some u) : rep w β nx ow a u := by
 have := qn8 h k (X6.1 h1).1; rw [Xx, Xx, h1, h2] at this; exact this
end
section
open Go Go.RowKit
section
variable {P : Program} {C : Ctx P} {s : St} {a : Act} {w : World} {β : Ghost}
theorem j40 {β β' : Ghost} {hp hp' : Hp} {A : Nat -> Prop} (hb : ∀ p ∈ hp', ∀ b, bof β' p.1 b -> ∃ q ∈ hp, bof β q.1 b) : ∀ b, own β' hp' A b -> own β hp A b := by
 rintro b (h | ⟨p, hp, h⟩)
 . exact .inl h
 . exact .inr (hb p hp b h)
theorem Rel.tell (h : Rel C s a w β) {β' : Ghost} {hp' : Hp} {nx' : Nat} (hn : s.nx <= nx') (hb : ∀ id, id < s.nx -> β' id = β id) (hbi : ∀ id, id < s.nx -> id ∉ s.hp.map (·.1) -> β'.inn id = β.inn id) (hids : ∀ p ∈ hp', p.1 ∈ s.hp.map (·.1) \/ s.nx <= p.1)
  (hlt : ∀ p ∈ hp', p.1 < nx') (hnd : (hp'.map (·.1)).Nodup)
  (hbof : ∀ p ∈ hp', ∀ b, bof β' p.1 b -> ∃ q ∈ s.hp, bof β q.1 b) (hinj : ∀ p ∈ hp', ∀ q ∈ hp', ∀ b, bof β' p.1 b -> bof β' q.1 b -> p.1 = q.1) (hib : ∀ p ∈ hp', ∀ b ∈ β'.inn p.1, ∀ C, β' p.1 ≠ some (b, C))
  (hi0 : ∀ p ∈ hp', q94 p.2 = false -> β'.inn p.1 = []) (hobj : Agree w w (own β s.hp C.A) (own β' hp' C.A) -> ∀ p ∈ hp', q5f w β' nx' (own β' hp' C.A) p.1 p.2) :
  Rel C { s with hp := hp', nx := nx' } a w β' := by
 have hA : Agree w w (own β s.hp C.A) (own β' hp' C.A) := ⟨Xa _, fun b hnb _ => ⟨rfl, fun hx => hnb (j40 hbof b hx)⟩⟩; exact h.step hn hb (Xa _) (fun _ _ _ => rfl) (fun b _ ⟨p, hp, hbb⟩ => hbof p hp b hbb) (h.hp.re hlt hnd hbof hinj hib hi0 (hobj hA)) hids rfl rfl ⟨rfl, fun _ => Xa _⟩ hbi
end
end
section
open Go Go.RowKit
section
variable {P : Program} {C : Ctx P} {s : St} {a : Act} {w : World} {β : Ghost}
theorem z5p {hp : Hp} {i j : Nat} {o o' : AObj} (h : q0e hp i = some o) (h' : q0e hp j = some o') (hd : q94 o = true) (hd' : q94 o' = false) : i ≠ j := fun e => by
 subst e; rw [h] at h'; cases h'; rw [hd] at hd'; cases hd'
end
end
section
open Go Go.RowKit
section
variable {P : Program} {C : Ctx P} {s : St} {a : Act} {w : World} {β : Ghost}
theorem Rel.one (h : Rel C s a w β) {id : Nat} {o o' : AObj} {L : List Nat} (hg : q0e s.hp id = some o) (hL : ∀ b ∈ L, b ∈ β.inn id) (hc : q94 o' = false -> L = [])
  (ho : ∀ (β' : Ghost) (ow' : Nat -> Prop), Agree w w (own β s.hp C.A) ow' -> (∀ x, β' x = β x) -> β'.inn id = L -> (∀ b ∈ β.inn id, b ∉ L -> ¬ ow' b /\ b < w.heap.size) -> q5f w β' s.nx ow' id o') :
  ∃ β', Rel C { s with hp := q0o s.hp id o' } a w β' := by
 have hm := q0g hg
 let β' : Ghost := ⟨β.f, fun x => if x = id then L else β.inn x⟩
 have hin2 : β'.inn id = L := by simp [β']
 have hin3 : ∀ x, x ≠ id -> β'.inn x = β.inn x := fun x hx => by simp [β', hx]
 have hmem : ∀ p ∈ q0o s.hp id o', p = (id, o') \/ (p ∈ s.hp /\ p.1 ≠ id) := fun p hp => qh4 h.hp.nd hp; have hbo : ∀ x b1, bof β' x b1 -> bof β x b1 := fun x b1 hb1 => by
  rcases hb1 with ⟨C', hc⟩ | hb1
  . exact .inl ⟨C', hc⟩
  .
   by_cases hx : x = id
   . subst hx; rw [hin2] at hb1; exact .inr (hL b1 hb1)
   . rw [hin3 x hx] at hb1; exact .inr hb1
 have hold : ∀ p ∈ q0o s.hp id o', ∃ q ∈ s.hp, q.1 = p.1 := fun p hp => by
  rcases hmem p hp with rfl | ⟨hp, _⟩
  . exact ⟨_, hm, rfl⟩
  . exact ⟨p, hp, rfl⟩
 have hinj : ∀ p ∈ q0o s.hp id o', ∀ q ∈ q0o s.hp id o', ∀ b, bof β' p.1 b -> bof β' q.1 b -> p.1 = q.1 := by
  intro p hp q hq b1 hb1 hb2; obtain ⟨p', hp', he⟩ := hold p hp; obtain ⟨q', hq', he'⟩ := hold q hq; have := h.hp.bofInj p' hp' q' hq' b1 (by rw [he]; exact hbo _ _ hb1) (by rw [he']; exact hbo _ _ hb2); rw [<- he, <- he']; exact this
 refine ⟨β', h.tell (Xa _) (fun _ _ => rfl) (fun x hx hni => hin3 x fun e => hni (by rw [e]; exact Yw hm)) ?_ ?_ (by rw [q93]; exact h.hp.nd) ?_ hinj ?_ ?_ ?_⟩
 . intro p hp; obtain ⟨q, hq, he⟩ := hold p hp; exact .inl (he ▸ Yw hq)
 . intro p hp; obtain ⟨q, hq, he⟩ := hold p hp; exact he ▸ h.hp.lt q hq
 . intro p hp b1 hb1; obtain ⟨q, hq, he⟩ := hold p hp; exact ⟨q, hq, by rw [he]; exact hbo _ _ hb1⟩
 .
  intro p hp b1 hb1 C' hc; obtain ⟨q, hq, he⟩ := hold p hp; have hc : β p.1 = some (b1, C') := hc; have hb2 : b1 ∈ β.inn q.1 := by
   by_cases hx : p.1 = id
   . rw [hx, hin2] at hb1; rw [he, hx]; exact hL _ hb1
   . rw [hin3 _ hx] at hb1; rw [he]; exact hb1
  rw [<- he] at hc; exact (h.hp.ib q hq b1 hb2).2.2.1 q hq C' hc
 .
  intro p hp hcn; rcases hmem p hp with rfl | ⟨hp, hx⟩
  . rw [hin2]; exact hc hcn
  . rw [hin3 _ hx]; exact h.hp.i0 p hp hcn
 .
  intro hA p hp; rcases hmem p hp with rfl | ⟨hp, hx⟩
  .
   refine ho β' _ hA (fun _ => rfl) hin2 fun b hb hbL => ⟨?_, (h.hp.ib _ hm b hb).1⟩; rintro (hx | ⟨q, hq, hqb⟩)
   . exact (h.hp.ib _ hm b hb).2.1 hx
   .
    obtain ⟨q', hq', he⟩ := hold q hq; have h1 := h.hp.bofInj _ hm q' hq' b (.inr hb) (by rw [he]; exact hbo _ _ hqb); simp only at h1; rw [he] at h1; rw [<- h1] at hqb; rcases hqb with ⟨C', hc'⟩ | hqb
    . exact (h.hp.ib _ hm b hb).2.2.1 _ hm C' hc'
    . rw [hin2] at hqb; exact hbL hqb
  . exact q3m (β := β) (β' := β') hA (Xa _) (fun _ _ => rfl) (h.hp.lt p hp) (fun _ _ => rfl) (fun _ => hin3 _ hx) (h.hp.obj p hp)
end
end
section
open Go Go.RowKit
section
variable {P : Program} {C : Ctx P} {s : St} {a : Act} {w : World} {β : Ghost}
end
section
variable {P : Program} {Q QQ : Exit -> St -> Prop} {s s' : St} {a b c x y : Code} {i : Nat}
def z9l (P : Program) (Q : Exit -> St -> Prop) (b : Code) : Exit -> St -> Prop := q5l (wpV P b Q) Q
theorem sgW (h : ∀ QQ : Exit -> St -> Prop, Eqv QQ (z9l P Q b) -> wpV P a QQ s) : wpV P (.seq a b) Q s := fun hok C a w β hR Q' hQ => by
 simp only [okB, Xc] at hok; refine wp_seq (h _ rfl hok.1 C a w β hR _ ?_); intro e s' a' w' β' hR' hq; have hnt : s'.nt = s.nt := hR'.ntc.trans hR.ntc.symm
 cases e <;> simp only [z9l, q5l] at hq <;> simp only [Exit.then]
 . exact hq (by rw [hnt]; exact hok.2) C a' w' β' hR' Q' hQ
 . exact hQ _ _ _ _ _ hR' hq
 . exact hQ _ _ _ _ _ hR' hq
theorem x8 (hq : Eqv QQ (z9l P Q b)) (h : wpV P b Q s) : QQ .normal s := by unfold Eqv at hq; subst hq; exact h
theorem qo6 (hq : Eqv QQ (z9l P Q b)) (h : Q (.exit i) s) : QQ (.exit i) s := by unfold Eqv at hq; subst hq; exact h
theorem qn6 (hq : Eqv QQ (z9l P Q b)) (h : Q .ret s) : QQ .ret s := by unfold Eqv at hq; subst hq; exact h
theorem wv (h : vc P c Q s) : wpV P c Q s := q6p c Q s h
theorem qe5 (h : ∀ QQ : Exit -> St -> Prop, Eqv QQ (q8h i Q) -> wpV P c QQ s) : wpV P (.block i c) Q s := fun hok C a w β hR Q' hQ => by
 refine wp_block (h _ rfl hok C a w β hR _ ?_); intro e s' a' w' β' hR' hq
 cases e <;> simp only [q8h] at hq <;> simp only [Exit.inBlock]
 . exact hQ _ _ _ _ _ hR' hq
 .
  split at hq
  . rename_i hj; rw [if_pos hj]; exact hQ _ _ _ _ _ hR' hq
  . rename_i hj; rw [if_neg hj]; exact hQ _ _ _ _ _ hR' hq
 . exact hQ _ _ _ _ _ hR' hq
theorem q42 {t : Operand} {b : Bool} (hb : u6 s.env t = .v (.bool b)) (h1 : b = true -> wpV P x Q s) (h2 : b = false -> wpV P y Q s) : wpV P (.cond t x y) Q s := fun hok C a w β hR Q' hQ => by
 simp only [okB, Xc] at hok; have := hR.ev t; rw [hb] at this; simp only [rep] at this; exact wp_cond_split this (fun hb' => h1 hb' hok.1 C a w β hR Q' hQ) (fun hb' => h2 hb' hok.2 C a w β hR Q' hQ)
theorem zv0 {t : Operand} (hc : u6 s.env t = .v (.bool true)) (h1 : wpV P x Q s) : wpV P (.cond t x y) Q s := q42 hc (fun _ => h1) (fun h => by cases h)
theorem j7i {t : Operand} (hc : u6 s.env t = .v (.bool false)) (h1 : wpV P y Q s) : wpV P (.cond t x y) Q s := q42 hc (fun h => by cases h) (fun _ => h1)
theorem zo0 {ι : Type} (S : ι -> St) (I : ι -> Prop) (h : ∀ QQ : Exit -> St -> Prop, Eqv QQ (q5l (fun s' => ∃ i l, Le s' (S i) l /\ I i) Q) -> wpV P x QQ s) (hk : ∀ i, I i -> wpV P y Q (S i)) : wpV P (.seq x y) Q s :=
 sgW fun _ hq => by
  unfold Eqv at hq; subst hq; refine zh7 (h _ rfl) fun e s' hq => ?_
  cases e <;> simp only [q5l, z9l] at hq ⊢ <;> first | exact hq | skip
  obtain ⟨i, l, hl, hi⟩ := hq; exact j38 hl (hk i hi)
theorem z5k {ι : Type} (S : ι -> St) (I : ι -> Prop) (μ : ι -> Nat) (i0 : ι) (l0 : List (Option Nat)) (h0 : Le s (S i0) l0) (hI : I i0)
  (hr : ∀ i, I i -> ∀ QQ : Exit -> St -> Prop, Eqv QQ (q5l (fun s' => ∃ i' l', Le s' (S i') l' /\ I i' /\ μ i' < μ i) Q) -> wpV P c QQ (S i)) : wpV P (.loop c) Q s :=
 z1s S I μ i0 l0 h0 hI fun i hi => hr i hi _ rfl
theorem reW (hr : ∀ (C : Ctx P) a w β, Rel C s a w β -> ∃ β', Rel C s' a w β') (h : wpV P c Q s') (hn : s'.nt = s.nt := by rfl) : wpV P c Q s := fun hok C a w β hR Q' hQ =>
 let ⟨β', hR'⟩ := hr C a w β hR
 h (by rw [hn]; exact hok) C a w β' hR' Q' hQ
def zg4 (P : Program) (Q : Exit -> St -> Prop) (e : Exit) (s : St) : Prop := ∃ s', (∀ (C : Ctx P) a w β, Rel C s a w β -> ∃ β', Rel C s' a w β') /\ Q e s'
theorem q7p (h : wpV P c (zg4 P Q) s) : wpV P c Q s := fun hok C a w β hR Q' hQ => h hok C a w β hR Q' fun e s1 a1 w1 β1 hR1 ⟨s2, hr, hq⟩ =>
 let ⟨β2, hR2⟩ := hr C a1 w1 β1 hR1
 hQ e s2 a1 w1 β2 hR2 hq
theorem q2e {e : Exit} (h : Q e s) : zg4 P Q e s := ⟨s, fun _ _ _ β hR => ⟨β, hR⟩, h⟩
theorem q7i {e : Exit} (hr : ∀ (C : Ctx P) a w β, Rel C s a w β -> ∃ β', Rel C s' a w β') (h : zg4 P Q e s') : zg4 P Q e s :=
 let ⟨s2, hr2, hq⟩ := h
 ⟨s2, fun C a w β hR => let ⟨β1, hR1⟩ := hr C a w β hR
  hr2 C a w β1 hR1, hq⟩
end
section
variable {P : Program} {C : Ctx P} {s : St} {a : Act} {w : World} {β : Ghost}
end
end
section
open Go Go.RowKit
section
variable {P : Program} {C : Ctx P} {s : St} {a : Act} {w : World} {β : Ghost}
theorem Rel.tellW (h : Rel C s a w β) {w' : World} {β' : Ghost} {hp' : Hp} {nx' : Nat} (hn : s.nx <= nx') (hb : ∀ id, id < s.nx -> β' id = β id) (hbi : ∀ id, id < s.nx -> id ∉ s.hp.map (·.1) -> β'.inn id = β.inn id) (hids : ∀ p ∈ hp', p.1 ∈ s.hp.map (·.1) \/ s.nx <= p.1)
  (hlt : ∀ p ∈ hp', p.1 < nx') (hnd : (hp'.map (·.1)).Nodup) (hsz : w.heap.size <= w'.heap.size) (hK : ∀ b, b < w.heap.size -> ¬ blks β s.hp b -> w'.heap[b]? = w.heap[b]?)
  (hbof : ∀ p ∈ hp', ∀ b, bof β' p.1 b -> b < w'.heap.size /\ ((∃ q ∈ s.hp, bof β q.1 b) \/ w.heap.size <= b)) (hinj : ∀ p ∈ hp', ∀ q ∈ hp', ∀ b, bof β' p.1 b -> bof β' q.1 b -> p.1 = q.1) (hib : ∀ p ∈ hp', ∀ b ∈ β'.inn p.1, ∀ C, β' p.1 ≠ some (b, C))
  (hi0 : ∀ p ∈ hp', q94 p.2 = false -> β'.inn p.1 = []) (hobj : Agree w w' (own β s.hp C.A) (own β' hp' C.A) -> ∀ p ∈ hp', q5f w' β' nx' (own β' hp' C.A) p.1 p.2) (ho : w'.os = w.os) (ht : w'.tape = w.tape) (hout : w'.output = w.output /\ (dkF = true -> w.drawn <= w'.drawn)) :
  Rel C { s with hp := hp', nx := nx' } a w' β' := by
 have hO : ∀ b, b < w.heap.size -> blks β' hp' b -> blks β s.hp b := fun b hlt ⟨p, hp, hb⟩ => (hbof p hp b hb).2.elim id fun hx => absurd hlt (Nat.not_lt.2 hx); have hA : Agree w w' (own β s.hp C.A) (own β' hp' C.A) := ⟨hsz, fun b hnb hlt => ⟨hK b hlt (fun hx => hnb (.inr hx)), fun hx => hx.elim (fun hx => hnb (.inl hx)) fun hx => hnb (.inr (hO b hlt hx))⟩⟩; have hav : ∀ p ∈ hp', ∀ b, bof β' p.1 b -> ¬ C.A b := fun p hp b hb hx => by
  rcases (hbof p hp b hb).2 with ⟨q, hq, hqb⟩ | hge
  . exact h.hp.bofAv q hq b hqb hx
  . have := h.alt b hx; have := h.ext.size; omega
 refine h.step hn hb hsz hK hO ⟨hobj hA, hlt, hnd, fun p hp q hq b c c' h1 h2 => hinj p hp q hq b (.inl ⟨c, h1⟩) (.inl ⟨c', h2⟩), fun p hp b c h1 => hav p hp b (.inl ⟨c, h1⟩), hi0, fun p hp b hb => ⟨(hbof p hp b (.inr hb)).1, hav p hp b (.inr hb), fun q hq c hc => ?_, fun q hq hc => hinj q hq p hp b (.inr hc) (.inr hb)⟩⟩ hids ho ht hout hbi; have := hinj q hq p hp b (.inl ⟨c, hc⟩) (.inr hb); rw [this] at hc; exact hib p hp b hb c hc
end
end
section
open Go Go.RowKit
section
variable {P : Program} {C : Ctx P} {s : St} {a : Act} {w : World} {β : Ghost}
end
attribute [go_sem] j8m j6y j8n j43 j2c
end
section
open Go Go.RowKit
end
section
open Go Go.RowKit
class Ct {R : Type} (P : Program) (f : FuncId) (x : Option R) (args : outParam (List AV)) (rv : outParam (R -> AV)) : Prop where
 ok : ∀ r, x = some r -> PureS P f args 0 (rv r)
instance {R : Type} {P : Program} {f : FuncId} {x : Option R} {args : List AV} {rv : R -> AV} : CoeFun (Ct P f x args rv) (fun _ => ∀ r, x = some r -> PureS P f args 0 (rv r)) := ⟨fun t => t.ok⟩
section
variable {P : Program} {Q QQ : Exit -> St -> Prop} {s : St} {N : St -> Prop} {a b c x y : Code} {i j : Nat} {R α : Type} {r : R}
theorem sgj (hj : joins a = false) (h : ∀ QQ : Exit -> St -> Prop, Eqv QQ (qt2 P Q b) -> vc P a QQ s) : vc P (.seq a b) Q s := z7q hj h
theorem je6 (h : vc P (.seq a b) Q s) : vc P (.seq a b) Q s := h
theorem ja7 {t : Operand} (h : vc P (.cond t x y) Q s) : vc P (.cond t x y) Q s := h
theorem je8 {ops : Array Oper} {d : Bool} (h : vc P (.region i ops d) Q s) : vc P (.region i ops d) Q s := h
theorem je7 (h : vc P .ret Q s) : vc P .ret Q s := h
theorem ja4 (h : vc P .skip Q s) : vc P .skip Q s := h
theorem je9 {l} (h : vc P (.label l) Q s) : vc P (.label l) Q s := h
theorem gEx (h : vc P (.exit i) Q s) : vc P (.exit i) Q s := h
theorem gBl (h : vc P (.block i c) Q s) : vc P (.block i c) Q s := h
theorem ja8 {f : FuncId} {args : List AV} {K : St -> AV -> Prop} (h : q8l P s f args K) : q8l P s f args K := h
theorem ja5 {u : AV} {K : AV -> Hp -> Nat -> Prop} (h : z0b s u K) : z0b s u K := h
theorem gQ {f : FuncId} {args : List AV} {n : Nat} {g : Bool} {K : AV -> Prop} (h : exQ P f args n g K) : exQ P f args n g K := h
theorem bI {Φ : Prop} [Row α] {L : List α} {i : Int} {k : α -> Option R} (F : Φ) (h : q9 (idx L i) k = some r) : ∃ x, (Φ /\ 0 <= i /\ i < L.length /\ q30 (enc L) i.toNat = Row.row x) /\ k x = some r := by
 obtain ⟨x, e, h⟩ := z8 h; obtain ⟨h1, h2, h3⟩ := q87 e; exact ⟨x, ⟨F, h1, h2, h3⟩, h⟩
theorem bG {Φ c : Prop} [Decidable c] {k : Option R} (F : Φ) (h : q03 c k = some r) : (Φ /\ c) /\ k = some r := by
 obtain ⟨g, h⟩ := q0d h; exact ⟨⟨F, g⟩, h⟩
theorem sB {b : Bool} {k1 k2 : Option R} {t : Operand} {p q : Prop} (h : (if b = true then k1 else k2) = some r) (h1 : p -> k1 = some r -> vc P x Q s) (h2 : q -> k2 = some r -> vc P y Q s)
  (hc : u6 s.env t = .v (.bool b) := by first | (simp only [go_sem]; done) | (simp [go_sem]; done) | (simp [go_sem]; (first | grind | (simp_all; done))) | (simp only [go_sem]; congr 2; (first | grind | (simp_all; done)))) (e1 : (b = true) = p := by (conv => lhs; (try simp only [bool_to_prop]))) (e2 : (b = false) = q := by (conv => lhs; (try simp only [bool_to_prop]))) : vc P (.cond t x y) Q s :=
 q49 hc (fun hb => h1 (e1 ▸ hb) (q2k h hb)) (fun hb => h2 (e2 ▸ hb) (q2l h hb))
theorem q6l {f : FuncId} {args args' : List AV} {K : St -> AV -> Prop} {x : Option α} {k : α -> Option R} {rv : α -> AV} [t : Ct P f x args' rv] (h : q9 x k = some r) (next : ∀ v, k v = some r -> K s (rv v))
  (ha : args = args' := by rfl) (hf : q0f args' = true := by rfl) : q8l P s f args K := by
 obtain ⟨v, e, h⟩ := z8 h; exact q7w (t.ok v e) ha hf (next v h)
theorem j9d {f : FuncId} {args args' : List AV} {nx : Nat} {g : Bool} {K : AV -> Prop} {x : Option α} {k : α -> Option R} {rv : α -> AV} [t : Ct P f x args' rv] (h : q9 x k = some r) (next : ∀ v, k v = some r -> K (rv v))
  (ha : args = args' := by rfl) (hf : q0f args' = true := by rfl) : exQ P f args nx g K := by
 obtain ⟨v, e, h⟩ := z8 h; exact callq (fun _ => t.ok v e) ha hf (next v h)
end
def zy9 : List Oper -> Nat -> List Nat -> List Nat
 | [], _, acc => acc
 | o :: r, i, acc => zy9 r (i + 1) (acc ++ [maskAt acc i o.after.toList])
def mkK (ms : List Nat) : Nat -> Nat
 | 0 => 0
 | k + 1 => if ((ms.getD k 0 &&& (2 ^ k - 1)) == 2 ^ k - 1) = true then mkK ms k else k + 1
theorem jb1 {P : Program} {ops : Array Oper} {s : St} {K : St -> Prop} {k : Nat} (h : vcQ P ops (ops.toList.take k) s fun s' => q9n P ops (ops.toList.drop k) s' K) (hk0 : mkK (zy9 ops.toList 0 []) ops.size = k := by (conv => lhs; whnf))
  (hm : P.follows .mixedOrders = true := by kernel_rfl) (hms : qm3 (zy9 ops.toList 0 []) 0 ops.toList = true := by kernel_rfl) (hk : k <= ops.size := by exact of_decide_eq_true (by kernel_rfl)) (ht : z5e (zy9 ops.toList 0 []) ops.size k = true := by kernel_rfl) : qv2 P ops s K :=
 q0a k _ hm hms hk ht h
theorem ctI {R : Type} {P : Program} {f : FuncId} {fn : Func} {c : Code} {args : List AV} {x : Option R} {rv : R -> AV} (hf : P.funcs[f]? = some fn) (hb : fn.body = some c) (h : ∀ r, x = some r -> vc P c (z1m P fn.results.toList (z9e (rv r) 0)) ⟨0, ql2 args 0, [], 0, fn.ntmps⟩) (hok : okB fn.ntmps c = true := by kernel_rfl) (hlen : (decide (args.length <= fn.ntmps) && !(fn.name == "runtime.NumGoroutine")) = true := by kernel_rfl) : Ct P f x args rv := ⟨fun r e => Spec.of_vc hf hb hok hlen (h r e)⟩
theorem spI {R : Type} {r : R} {p : Prop} {b : Bool} {k1 k2 : Option R} (h : (if b = true then k1 else k2) = some r) (h1 : b = true -> k1 = some r -> p) (h2 : b = false -> k2 = some r -> p) : p := by
 cases b
 . exact h2 rfl (q2l h rfl)
 . exact h1 rfl (q2k h rfl)
theorem nxC {ι : Type} {s : St} {S : ι -> St} {I : ι -> Prop} (i : ι) (h : I i) (l : List (Option Nat)) (hl : Le s (S i) l) : ∃ i' l', Le s (S i') l' /\ I i' := ⟨i, l, hl, h⟩
theorem leA {p : Prop} (e : p := by simp only [go_sem, Le] <;> (repeat' apply And.intro) <;> first | (with_reducible exact zp6 _ _) | (with_reducible exact j7r _ _ _) | (with_reducible exact j7q _ _ _ _) | (exact qs1 _ (by assumption)) | ((try with_reducible refine q04 ?_); first | rfl | assumption | omega | exact ⟨_, rfl, Nat.le_refl _, rfl, rfl⟩ | exact .inr ⟨_, _, rfl, rfl⟩ | exact .inr ⟨_, _, _, rfl, rfl, rfl, by simp only [go_sem]⟩ | (simp only [go_sem]; done) | (simp [go_sem]; done) | (simp [q11, enc]; done) | (simp [q11, enc]; omega) | (simp [enc, z5i, z2s, z4b, qa4, j1a, zt1, j5i, zt0]; done) | (simp only [List.drop_zero, z3m, z7k, List.take_length]; done) | (simp only [List.drop_zero, z3m, z7k, List.take_length, List.nil_append, q11]; done) | (exact ⟨_, rfl, Nat.le_of_eq (q11 _).symm, j3l _⟩) | (simp [enc]; rfl) | (simp [enc]; rw [List.take_of_length_le (by simp)]) | (simp only [List.length_take]; omega))) : p := e
def pid (i : Nat) : AV -> List (Nat × Nat)
 | .ptr j _ => [(i, j)]
 | .apt j _ _ _ => [(i, j)]
 | .osl j _ _ _ => [(i, j)]
 | .bsl j _ _ => [(i, j)]
 | .mp j => [(i, j)]
 | _ => []
def inner : AV -> List AV
 | .agg xs => xs
 | .tup xs => xs
 | .clo _ xs => xs
 | _ => []
mutual
def mA (a : AV) : AV -> List (Nat × Nat)
 | .ptr i _ => pid i a
 | .apt i _ _ _ => pid i a
 | .osl i _ _ _ => pid i a
 | .bsl i _ _ => pid i a
 | .mp i => pid i a
 | .agg ys => mL (inner a) ys
 | .tup ys => mL (inner a) ys
 | _ => []
def mL : List AV -> List AV -> List (Nat × Nat)
 | x :: xs, y :: ys => mA x y ++ mL xs ys
 | _, _ => []
end
def mE (env : List (Nat × AV)) : List (Nat × AV) -> List (Nat × Nat)
 | [] => []
 | (k, a) :: r => mA (q0u env k) a ++ mE env r
def mC : AV -> AV -> List (Nat × Nat)
 | .clo _ xs, .clo _ ys => mL xs ys
 | _, _ => []
def mCL : List AV -> List AV -> List (Nat × Nat)
 | x :: xs, y :: ys => mC x y ++ mCL xs ys
 | _, _ => []
def mF (env : List (Nat × AV)) : List (Nat × AV) -> List (Nat × Nat)
 | [] => []
 | (k, a) :: r => mC (q0u env k) a ++ mF env r
def lk : List (Nat × Nat) -> Nat -> Option Nat
 | [], _ => none
 | (a, b) :: r, q => if a = q then some b else lk r q
def mO : Option AObj -> AObj -> List (Nat × Nat)
 | some (.box as), .box bs => mL as bs ++ mCL as bs
 | _, _ => []
def mJ (hp : Hp) (o : AObj) : Option Nat -> List (Nat × Nat)
 | some j => mO (q0e hp j) o
 | none => []
def mH (hp : Hp) : Hp -> List (Nat × Nat) -> List (Nat × Nat)
 | [], ps => ps
 | (i, o) :: r, ps => mH hp r (ps ++ mJ hp o (lk ps i))
def slf : Nat -> List (Nat × Nat)
 | 0 => []
 | n + 1 => (n, n) :: slf n
def z9p (ps : List (Nat × Nat)) : Nat -> Nat -> List (Option Nat)
 | 0, _ => []
 | n + 1, q => lk ps q :: z9p ps n (q + 1)
def za0 (s : St) (nb nx : Nat) (hp : Hp) (ps : List (Nat × Nat)) : List (Option Nat) := z9p (mH s.hp hp (mH s.hp hp (ps ++ slf nb))) (nx - nb) nb
def z7f (s s' : St) : List (Option Nat) := za0 s s'.nb s'.nx s'.hp (mE s.env s'.env ++ mF s.env s'.env)
theorem nxA {ι : Type} {s : St} {S : ι -> St} {I : ι -> Prop} {i : ι} {l : List (Option Nat)} (h : I i) (e : z7f s (S i) = l := by (conv => lhs; simp only [go_sem, z7f, za0, mE, mF, mC, mCL, mA, mL, pid, inner, lk, mO, mJ, mH, slf, z9p])) (hl : Le s (S i) l := by exact leA) : ∃ i' l', Le s (S i') l' /\ I i' := ⟨i, l, hl, h⟩
theorem nxB {ι : Type} {s : St} {S : ι -> St} {I : ι -> Prop} {μ : ι -> Nat} {m : Nat} {i : ι} {l : List (Option Nat)} (h : I i) (hm : μ i < m) (e : z7f s (S i) = l := by (conv => lhs; simp only [go_sem, z7f, za0, mE, mF, mC, mCL, mA, mL, pid, inner, lk, mO, mJ, mH, slf, z9p])) (hl : Le s (S i) l := by exact leA) : ∃ i' l', Le s (S i') l' /\ I i' /\ μ i' < m := ⟨i, l, hl, h, hm⟩
theorem rtA {s : St} {r r' : AV} {hp' : Hp} {n' : Nat} {l : List (Option Nat)} (e : za0 s s.nb n' hp' (mA r r') = l := by (conv => lhs; simp only [go_sem, z7f, za0, mE, mF, mC, mCL, mA, mL, pid, inner, lk, mO, mJ, mH, slf, z9p])) (h : Le s ⟨s.nb, [], hp', n', s.nt⟩ l /\ AvLe (q6a s.nb l) s.hp (fun j => q90 (q6a s.nb l) j hp') n' r r' := by exact leA) : z0b s r (j0r r' hp' n') := q1w l h
theorem j9y {σ R : Type} {P : Program} {Q : Exit -> St -> Prop} {s : St} {c : Code} {body : (σ -> Option R) -> σ -> Option R} {v0 : σ} {r : R} (S : σ -> St) (h : q05 body rounds v0 = some r) (l0 : List (Option Nat)) (h0 : Le s (S v0) l0)
  (step : ∀ m i, body (q05 body m) i = some r -> ∀ QQ : Exit -> St -> Prop, Eqv QQ (q5l (fun s' => ∃ i' l', Le s' (S i') l' /\ q05 body m i' = some r) Q) -> vc P c QQ (S i)) : vc P (.loop c) Q s := by
 refine qx9 (z1s (ι := Nat × σ) (fun p => S p.2) (fun p => q05 body p.1 p.2 = some r) (fun p => p.1) (rounds, v0) l0 h0 h ?_); rintro ⟨n, i⟩ hi; obtain ⟨m, rfl, hm⟩ := q6x hi; refine zh7 (q6p _ _ _ (step m i hm _ rfl)) fun e s' hq => ?_
 cases e with
 | normal => obtain ⟨i', l', h1, h2⟩ := hq; exact ⟨(m, i'), l', h1, h2, Xm m⟩
 | _ => exact hq
def upS (s : St) (ks : List Nat) (d : List (Nat × AV) × Hp) (nx : Nat) : St := ⟨s.nb, ks.map (fun k => (k, q0u s.env k)) ++ d.1, d.2, nx, s.nt⟩
theorem q0x {σ R : Type} {P : Program} {Q : Exit -> St -> Prop} {s : St} {c : Code} {body : (σ -> Option R) -> σ -> Option R} {v0 : σ} {r : R} {S : σ -> St} {l0 : List (Option Nat)} (h : q05 body rounds v0 = some r) (ks : List Nat) (d : σ -> List (Nat × AV) × Hp) (nx : Nat)
  (step : ∀ m i, body (q05 body m) i = some r -> ∀ QQ : Exit -> St -> Prop, Eqv QQ (q5l (fun s' => ∃ i' l', Le s' (S i') l' /\ q05 body m i' = some r) Q) -> vc P c QQ (S i)) (eS : ∀ x, upS s ks (d x) nx = S x := by (intro x; conv => lhs; simp only [upS, q0u, List.map_cons, List.map_nil, List.cons_append, List.nil_append, List.append_nil, reduceIte, if_true, if_false, Nat.reduceEqDiff])) (e0 : z7f s (S v0) = l0 := by (conv => lhs; simp only [go_sem, z7f, za0, mE, mF, mC, mCL, mA, mL, pid, inner, lk, mO, mJ, mH, slf, z9p])) (h0 : Le s (S v0) l0 := by exact leA) : vc P (.loop c) Q s := j9y S h l0 h0 step
theorem q52 {ι : Type} {P : Program} {Q : Exit -> St -> Prop} {s : St} {x y : Code} {S : ι -> St} (I : ι -> Prop) (ks : List Nat) (d : ι -> List (Nat × AV) × Hp) (nx : Nat) (h : ∀ QQ : Exit -> St -> Prop, Eqv QQ (q5l (fun s' => ∃ i l, Le s' (S i) l /\ I i) Q) -> vc P x QQ s) (hk : ∀ i, I i -> vc P y Q (S i)) (eS : ∀ x, upS s ks (d x) nx = S x := by (intro x; conv => lhs; simp only [upS, q0u, List.map_cons, List.map_nil, List.cons_append, List.nil_append, List.append_nil, reduceIte, if_true, if_false, Nat.reduceEqDiff])) (hj : joins x = true := by kernel_rfl) : vc P (.seq x y) Q s := qt1 hj (z1k S I h hk)
theorem z2n {P : Program} {s : St} {f : FuncId} {args args' : List AV} {K : St -> AV -> Prop} {r : AV} (h : PureS P f args' 0 r) (hk : K s r) (ha : AvLe.AvLeL (q6a s.nb []) s.hp (fun j => q90 (q6a s.nb []) j []) s.nb args args' := by exact leA) (hf : q0f args' = true := by rfl) (hr : q6m r = true := by rfl) : q8l P s f args K :=
 j61 (s' := ⟨s.nb, [], [], s.nb, s.nt⟩) (l := []) ⟨rfl, rfl, Xa _, trivial, trivial, trivial⟩ ha h hf hr hk
theorem j9e {R α : Type} {r : R} {P : Program} {s : St} {f : FuncId} {args args' : List AV} {K : St -> AV -> Prop} {x : Option α} {k : α -> Option R} {rv : α -> AV} [t : Ct P f x args' rv] (h : q9 x k = some r) (next : ∀ v, k v = some r -> K s (rv v)) (ha : AvLe.AvLeL (q6a s.nb []) s.hp (fun j => q90 (q6a s.nb []) j []) s.nb args args' := by exact leA) (hf : q0f args' = true := by rfl) (hr : ∀ v, q6m (rv v) = true := by intro v; rfl) : q8l P s f args K := by
 obtain ⟨v, e, h⟩ := z8 h; exact z2n (t.ok v e) (next v h) ha hf (hr v)
theorem qf6 {P : Program} {s s' : St} {f : FuncId} {args : List AV} {K : St -> AV -> Prop} (ks : List Nat) (d : List (Nat × AV) × Hp) (nx : Nat) (l : List (Option Nat)) (as : List AV) (h : q8l P s' f as K) (eS : upS s ks d nx = s' := by (conv => lhs; simp only [upS, q0u, List.map_cons, List.map_nil, List.cons_append, List.nil_append, List.append_nil, reduceIte, if_true, if_false, Nat.reduceEqDiff])) (hl : Le s s' l := by exact leA)
  (ha : AvLe.AvLeL (q6a s.nb l) s.hp (fun j => q90 (q6a s.nb l) j s'.hp) s'.nx args as := by exact leA) : q8l P s f args K := q7v hl ha h
theorem q20 {P : Program} {s : St} {f : FuncId} {args args0 : List AV} {K : St -> AV -> Prop} {hp0 hp1 H : Hp} {n n1 N : Nat} {r0 R : AV} (l : List Nat) (h : DetS P f args0 hp0 n r0 hp1 n1) (hK : K { s with hp := H, nx := N } R) (hn : (s.hp.map (·.1)).Nodup := by simp) (ha : args = q5h (ofL l) args0 := by rfl)
  (hh : zm5 (q86 (ofL l) hp0) s.hp := by repeat' (first | exact trivial | refine ⟨rfl, ?_⟩)) (hk : (decide (l.length = n) && nodupB l && (l.all fun i => decide (i < s.nx)) && ltL n args0 && ltH n hp0) = true := by rfl)
  (hR : q21 (upR (ofL l) n s.nx) r0 = R := by rfl) (hH : q86 (upR (ofL l) n s.nx) hp1 ++ z1e ((q86 (ofL l) hp0).map (·.1)) s.hp = H := by rfl) (hN : n1 - n + s.nx = N := by rfl) : q8l P s f args K := q4t l h hn ha hh hk hR hH hN hK
theorem dtI {P : Program} {f : FuncId} {fn : Func} {c : Code} {args : List AV} {hp hp' : Hp} {n n' : Nat} {r : AV} (hf : P.funcs[f]? = some fn) (hb : fn.body = some c) (h : vc P c (z1m P fn.results.toList (j0r r hp' n')) ⟨n, ql2 args 0, hp, n, fn.ntmps⟩) (hok : okB fn.ntmps c = true := by kernel_rfl) (hlen : (decide (args.length <= fn.ntmps) && !(fn.name == "runtime.NumGoroutine")) = true := by kernel_rfl) : DetS P f args hp n r hp' n' := Spec.of_vc hf hb hok hlen h
theorem ptI {P : Program} {f : FuncId} {fn : Func} {c : Code} {args : List AV} {n : Nat} {r : AV} (hf : P.funcs[f]? = some fn) (hb : fn.body = some c) (h : vc P c (z1m P fn.results.toList (z9e r n)) ⟨n, ql2 args 0, [], n, fn.ntmps⟩) (hok : okB fn.ntmps c = true := by kernel_rfl) (hlen : (decide (args.length <= fn.ntmps) && !(fn.name == "runtime.NumGoroutine")) = true := by kernel_rfl) : PureS P f args n r := Spec.of_vc hf hb hok hlen h
theorem ctK {R : Type} {P : Program} {f : FuncId} {fn : Func} {c : Code} {args : List AV} {x x' : Option R} {rv : R -> AV} (hf : P.funcs[f]? = some fn) (hb : fn.body = some c) (e : x = x') (h : ∀ r, x' = some r -> True -> vc P c (z1m P fn.results.toList (z9e (rv r) 0)) ⟨0, ql2 args 0, [], 0, fn.ntmps⟩) (hok : okB fn.ntmps c = true := by kernel_rfl) (hlen : (decide (args.length <= fn.ntmps) && !(fn.name == "runtime.NumGoroutine")) = true := by kernel_rfl) : Ct P f x args rv := ctI hf hb (fun r hx => h r (e ▸ hx) trivial) hok hlen
theorem jg {P : Program} {Q : Exit -> St -> Prop} {s : St} {a b : Code} (h : ∀ QQ : Exit -> St -> Prop, Eqv QQ (qt2 P Q b) -> vc P a QQ s) (hj : joins a = true := by kernel_rfl) : vc P (.seq a b) Q s := qt1 hj (qy3 h)
theorem jg3 {P : Program} {Q : Exit -> St -> Prop} {s : St} {x y : Code} {t : Operand} (h1 : vc P x Q s) (hc : u6 s.env t = .v (.bool true) := by simp only [go_sem]; done) : vc P (.cond t x y) Q s := q8z hc h1
theorem jg4 {P : Program} {Q : Exit -> St -> Prop} {s : St} {x y : Code} {t : Operand} (h1 : vc P y Q s) (hc : u6 s.env t = .v (.bool false) := by simp only [go_sem]; done) : vc P (.cond t x y) Q s := qv4 hc h1
theorem ai {p q : Prop} (k : q) (h : p := by omega) : p /\ q := ⟨h, k⟩
theorem au {p : Prop} (e : p := by
  repeat' (first
    | ((with_reducible refine je6 ?_); first | refine sgj (Eq.refl false) (fun _ _ => ?_) | (refine qt1 (Eq.refl true) ?_; refine qy3 (fun _ _ => ?_)))
    | ((with_reducible refine je8 ?_); (try (refine q0c ?_; refine jb1 ?_)); (repeat (first | (obtain ⟨_, F, h⟩ := bI F h; try simp only [Int.toNat_natCast, Int.reduceToNat] at F) | obtain ⟨F, h⟩ := bG F h)); simp only [go_sem, F])
    | ((with_reducible refine ja7 ?_); first | (refine q8z ?_ ?_; · (simp only [go_sem]; done)) | (refine qv4 ?_ ?_; · (simp only [go_sem]; done)) | refine sB h (fun hb h => ?_) (fun hb h => ?_))
    | ((with_reducible refine je7 ?_); refine q02 ?_)
    | ((with_reducible refine ja4 ?_); refine y9 ?_)
    | ((with_reducible refine je9 ?_); refine zq7 ?_)
    | ((with_reducible refine gEx ?_); refine q0q ?_)
    | ((with_reducible refine gBl ?_); refine w9 (fun _ _ => ?_))
    | ((with_reducible refine ja5 ?_); obtain rfl := Option.some.inj h; first | (refine q2p rfl ?_; exact leA) | exact rtA)
    | refine q8 (by assumption) ?_
    | refine q06 (by assumption) ?_
    | refine q0s (by assumption) ?_
    | refine q0m (by assumption) ?_
    | refine q2b (by assumption) ?_
    | refine q1p (by assumption) ?_
    | refine q0i (by assumption) ?_
    | refine zo9 (by assumption) (by decide) ?_
    | refine q0r (by assumption) ?_
    | (refine u7 (by assumption) ?_
       first
         | exact nxA h
         | exact nxA (i := (_, _)) h
         | exact nxA (i := (_, _, _)) h
         | exact nxA (i := (_, _, _, _)) h
         | exact nxA (i := (_, _, _, _, _)) h
         | exact nxA (i := (_, _, _, _, _, _)) h
         | exact nxA (i := (_, _, _, _, _, _, _)) h
         | exact nxA (i := (_, _, _, _, _, _, _, _)) h
         | exact nxA (i := ()) h
         | exact nxB (i := (_, _)) h (Nat.lt_succ_self _)
         | exact nxB (i := (_, _, _)) h (Nat.lt_succ_self _)
         | exact nxB (i := (_, _, _, _)) h (Nat.lt_succ_self _)
         | exact nxB (i := (_, _, _, _, _)) h (Nat.lt_succ_self _)
         | exact nxB (i := (_, _, _, _, _, _)) h (Nat.lt_succ_self _))
    | ((with_reducible refine ja8 ?_); first | refine q6l h (fun v h => ?_) | refine j9e h (fun v h => ?_))
    | ((with_reducible refine gQ ?_); refine j9d h (fun v h => ?_))
    | ((with_reducible refine And.intro ?_ ?_); · first | omega | assumption | (simp only [List.length_append, List.length_cons, List.length_nil, Nat.zero_add] <;> omega) | (simp +contextual only [and_self, implies_true, true_and, and_true, imp_self]; done) | (intros; (repeat' apply And.intro) <;> first | assumption | omega) | (simp +contextual; done) | (intros; simp_all; done) | exact rfl)
    | ((repeat (first | (obtain ⟨_, F, h⟩ := bI F h; try simp only [Int.toNat_natCast, Int.reduceToNat] at F) | obtain ⟨F, h⟩ := bG F h)); simp only [go_sem, F])
    | (refine spI h (fun hb h => ?_) (fun hb h => ?_) <;> (replace F := And.intro F hb; (repeat (first | (obtain ⟨_, F, h⟩ := bI F h; try simp only [Int.toNat_natCast, Int.reduceToNat] at F) | obtain ⟨F, h⟩ := bG F h)); simp only [go_sem, F])))) : p := e
theorem au1 {p : Prop} (e : p := by
 intro r h; have F := trivial; exact au) : p := e
end
section
open Go Go.RowKit
theorem jh9 {α σ R : Type} {l : List α} (hl : l.length < 9223372036854775807) {body : (Int × σ -> Option R) -> Int × σ -> Option R} (I : Nat -> σ -> Prop) {Q : R -> Prop} {s0 : σ} (i0 : Nat)
  (h : ∀ (rec : Int × σ -> Option R) (i : Nat) (_ : i < l.length) s, i0 <= i -> I i s -> (∀ s', I (i + 1) s' -> Ok (rec (((i + 1 : Nat) : Int), s')) Q) -> Ok (body rec ((i : Int), s)) Q)
  (hK : ∀ (rec : Int × σ -> Option R) s, I l.length s -> Ok (body rec ((l.length : Int), s)) Q) (h0 : I i0 s0) (hi0 : i0 <= l.length) : Ok (q05 body rounds ((i0 : Int), s0)) Q := by
 refine jh7 (fun s => ∃ i : Nat, s.1 = (i : Int) /\ i0 <= i /\ i <= l.length /\ I i s.2) (fun s => l.length - s.1.toNat) ?_ ⟨i0, rfl, Xa _, hi0, h0⟩ (by simp only [rounds]; omega); rintro rec ⟨_, s⟩ ⟨i, rfl, h1, h2, h3⟩ hr; rcases Xg i l.length with hlt | hge
 . exact h rec i hlt s h1 h3 fun s' hs' => hr _ ⟨i + 1, rfl, by omega, by omega, hs'⟩ (by simp only [Ym]; omega)
 .
  obtain rfl : i = l.length := by omega
  exact hK rec s h3
theorem ji0 {α R : Type} {l : List α} (hl : l.length < 9223372036854775807) {body : (Int -> Option R) -> Int -> Option R} (I : Nat -> Prop) {Q : R -> Prop} (i0 : Nat)
  (h : ∀ (rec : Int -> Option R) (i : Nat) (_ : i < l.length), i0 <= i -> I i -> (I (i + 1) -> Ok (rec ((i + 1 : Nat) : Int)) Q) -> Ok (body rec (i : Int)) Q)
  (hK : ∀ (rec : Int -> Option R), I l.length -> Ok (body rec (l.length : Int)) Q) (h0 : I i0) (hi0 : i0 <= l.length) : Ok (q05 body rounds (i0 : Int)) Q := by
 refine jh7 (fun s : Int => ∃ i : Nat, s = (i : Int) /\ i0 <= i /\ i <= l.length /\ I i) (fun s => l.length - s.toNat) ?_ ⟨i0, rfl, Xa _, hi0, h0⟩ (by simp only [rounds]; omega); rintro rec _ ⟨i, rfl, h1, h2, h3⟩ hr; rcases Xg i l.length with hlt | hge
 . exact h rec i hlt h1 h3 fun hs' => hr _ ⟨i + 1, rfl, by omega, by omega, hs'⟩ (by simp only [Ym]; omega)
 .
  obtain rfl : i = l.length := by omega
  exact hK rec h3
theorem zm6 {α β : Type} {f : α -> List β} {l : List α} {i : Nat} (h : i < l.length) : (l.take (i + 1)).flatMap f = (l.take i).flatMap f ++ f l[i] := by
 rw [X0 h, List.flatMap_append]; simp
theorem qn4 {α : Type} {P : α -> Prop} {l : List α} {i : Nat} (h : i < l.length) : (∀ x ∈ l.take (i + 1), P x) ↔ (∀ x ∈ l.take i, P x) /\ P l[i] := by
 rw [X0 h]
 constructor
 . intro h1; exact ⟨fun x hx => h1 x (Xp _ hx), h1 _ (Xk _ (Yl.2 rfl))⟩
 .
  rintro ⟨h1, h2⟩ x hx; rcases Xj.1 hx with hx | hx
  . exact h1 x hx
  . simp only [Yl] at hx; rw [hx]; exact h2
end
section
open Go Go.RowKit
theorem zt5 {w : World} {β : Ghost} {nx : Nat} {ow : Nat -> Prop} : ∀ (l us : List Value), x9 w β nx ow (l.map AV.v) us -> us = l
 | [], [], _ => rfl
 | a :: l, u :: us, h => by
  simp only [Xv, x9, rep] at h; rw [h.1, zt5 l us h.2]
 | [], u :: us, h => by simp only [List.map_nil, x9] at h
 | a :: l, [], h => by simp only [Xv, x9] at h
theorem zn1 {P : Program} {f : FuncId} {fn : Func} {e : Array Value -> Sem Value} (hf : P.funcs[f]? = some fn) (hname : (fn.name == "runtime.NumGoroutine") = false) (hb : fn.body.isNone = true) (hn : Extern.findNext fn = none) (he : Extern.find fn = some e)
  {vs : List Value} {v : Value} {r : AV} (hrun : ∀ w, (e ⟨vs⟩).run P w = .ok v w) (hr : ∀ w β nx ow, rep w β nx ow r v) : PureS P f (vs.map AV.v) 0 r := by
 intro w β A us hA hargs hhp hgs; obtain rfl := zt5 vs us hargs; refine ⟨fun hB => ?_, fun _ => ⟨v, w, ?_, v, _, _, _, β, rfl, ⟨rfl, rfl, rfl⟩, hr _ _ _ _, hhp, ?_⟩⟩
 .
  unfold q00 at hB; rw [hf] at hB
  cases hbd : fn.body with
  | none => simp [hbd] at hB
  | some c => simp [hbd] at hb
 . rw [run_callFunc_extern hf hname hb hn he, hrun]; rfl
 . exact { nx := Xa _, gh := fun _ _ => rfl, gi := fun _ _ _ => rfl, ids := fun p hp => (by cases hp), blk := fun p hp => (by cases hp), os := rfl, tape := rfl, output := ⟨rfl, fun _ => Xa _⟩, size := Xa _, keep := fun _ _ _ => rfl }
def zp4 (x y c : Int) : Option (Int × Int) := q03 (0 <= x /\ 0 <= y /\ 0 <= c /\ c <= 1) (some ((x + y + c) % 18446744073709551616, (x + y + c) / 18446744073709551616))
theorem j0o {P : Program} {f : FuncId} {fn : Func} (hf : P.funcs[f]? = some fn) (hname : (fn.name == "runtime.NumGoroutine") = false) (hb : fn.body.isNone = true) (hn : Extern.findNext fn = none) (he : Extern.find fn = some add64Entry)
  {x y c : Int} {r : Int × Int} (h : zp4 x y c = some r) : PureS P f [.v (.int .u64 x), .v (.int .u64 y), .v (.int .u64 c)] 0 (.tup [.v (.int .u64 r.1), .v (.int .u64 r.2)]) := by
 obtain ⟨hg, h⟩ := q0d h; simp only [Xd] at h; subst h; refine zn1 (vs := [.int .u64 x, .int .u64 y, .int .u64 c]) hf hname hb hn he (fun w => run_add64 x y c hg.1 hg.2.1 hg.2.2.1 hg.2.2.2 w) (fun w β nx ow => ?_); simp only [rep]; exact ⟨_, rfl, by simp only [x9, rep]; exact ⟨trivial, trivial, trivial⟩⟩
def zi7 : Array Value -> Sem Value := fun args => do
 let (x, y, b) <- Extern.MathBitsCarry.three "Sub64" args
 pure (Extern.MathBitsCarry.pair ((x + Extern.MathBitsCarry.m64 - y - b) % Extern.MathBitsCarry.m64) (if x < y + b then 1 else 0))
theorem zw8 {P : Program} (x y b : Nat) (hb : b <= 1) (w : World) :
  (zi7 #[.int .u64 x, .int .u64 y, .int .u64 b]).run P w =
   .ok (.tuple #[.int .u64 (((x + 18446744073709551616 - y - b) % 18446744073709551616 : Nat) : Int), .int .u64 ((if x < y + b then 1 else 0 : Nat) : Int)]) w := by
 have : b = 0 \/ b = 1 := by omega
 rcases this with rfl | rfl <;> rfl
def zi8 (x y b : Int) : Option (Int × Int) := q03 (0 <= x /\ 0 <= y /\ y <= 18446744073709551615 /\ 0 <= b /\ b <= 1) (some ((x + 18446744073709551616 - y - b) % 18446744073709551616, if x < y + b then 1 else 0))
theorem zw5 {P : Program} {f : FuncId} {fn : Func} (hf : P.funcs[f]? = some fn) (hname : (fn.name == "runtime.NumGoroutine") = false) (hb : fn.body.isNone = true) (hn : Extern.findNext fn = none) (he : Extern.find fn = some zi7)
  {x y c : Int} {r : Int × Int} (h : zi8 x y c = some r) : PureS P f [.v (.int .u64 x), .v (.int .u64 y), .v (.int .u64 c)] 0 (.tup [.v (.int .u64 r.1), .v (.int .u64 r.2)]) := by
 obtain ⟨⟨h1, h2, h3, h4, h5⟩, h⟩ := q0d h; simp only [Xd] at h; subst h; obtain ⟨x, rfl⟩ := Ya h1; obtain ⟨y, rfl⟩ := Ya h2; obtain ⟨c, rfl⟩ := Ya h4; refine zn1 (vs := [.int .u64 x, .int .u64 y, .int .u64 c]) hf hname hb hn he (fun w => zw8 x y c (by omega) w) (fun w β nx ow => ?_); simp only [rep]; refine ⟨_, rfl, ?_⟩; simp only [x9, rep, and_true, Value.int.injEq, true_and]; refine ⟨by omega, ?_⟩
 split <;> split <;> first | rfl | omega
end
section
open Go Go.RowKit
@[go_sem] theorem wl1 : IntKind.i64.wrap 1 = 1 := by decide
@[go_sem] theorem wl2 : IntKind.i64.wrap 2 = 2 := by decide
@[go_sem] theorem wl3 : IntKind.i64.wrap 3 = 3 := by decide
@[go_sem] theorem wl4 : IntKind.i64.wrap 4 = 4 := by decide
@[go_sem] theorem wl5 : IntKind.i64.wrap 5 = 5 := by decide
@[go_sem] theorem wl6 : IntKind.i64.wrap 6 = 6 := by decide
@[go_sem] theorem wl7 : IntKind.i64.wrap 7 = 7 := by decide
@[go_sem] theorem wl8 : IntKind.i64.wrap 8 = 8 := by decide
end
end Go.Proofs.YteibkihbdgphnaaGreat
