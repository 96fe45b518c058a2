/-
  The states and values that the verification conditions speak of, and that each operation of the model keeps to them. No condition beyond those that each theorem names.
-/
import Derived.WalkKit
import Derived.Laws.BytesArg
import Derived.Maps.Keyed
set_option linter.unusedSimpArgs false
set_option linter.unusedVariables false
set_option linter.unusedSectionVars false
open Option renaming some.injEq -> Xa, map_eq_some_iff -> Xd, bind_eq_some_iff -> Xt, isSome_iff_exists -> Yk, map_some -> Yz
open Prod renaming mk.injEq -> Xb
open List renaming mem_cons -> Xc, length_append -> Xg, eq_nil_of_length_eq_zero -> Xh, map_cons -> Xi, mem_cons_of_mem -> Xj, mem_map_of_mem -> Xk, getElem?_append_left -> Xm, getElem?_eq_getElem -> Xn, getD_eq_getElem?_getD -> Xq, mem_cons_self -> Xu, getElem?_take -> Xv, getElem?_append_right -> Xw, flatten_cons -> Xx, getElem?_eq_some_iff -> Xy, length_take -> X2, mem_map -> X3, mem_of_getElem? -> X6, nil_append -> X8, getElem?_drop -> X9, append_assoc -> Yb, getElem?_map -> Yc, all_cons -> Yd, getElem?_toArray -> Ye, nodup_cons -> Yh, length_drop -> Yl, length_cons -> Ym, append_nil -> Yo, mem_append -> Yp, getElem?_eq_none -> Yq, mem_of_mem_take -> Yr, mem_of_mem_drop -> Ys, take_succ_cons -> Yt, getD_cons_succ -> Yu, range -> Yy
open Nat renaming le_refl -> Xe, lt_of_lt_of_le -> Xf, lt_succ_self -> Xo, zero_add -> Xp, add_mul -> Xs, mul_le_mul_right -> Xz, le_succ -> X0, le_trans -> Ya, not_lt_zero -> Yf, lt_or_ge -> Yg, add_assoc -> Yj, add_sub_cancel_left -> Yn, add_zero -> Yv, lt_succ_of_lt -> Yw, zero_le -> Yx
open Array renaming getElem?_eq_some_iff -> Xl, ext' -> Xr, length_toList -> X7
open Bool renaming and_eq_true -> X1, false_eq_true -> X4
open Int renaming natCast_zero -> X5, toNat_of_nonneg -> Yi
namespace Go.Proofs.YteibkihbdgphnaaGreat
section
open Go Go.RowKit
inductive AV where
 | v (x : Value)
 | ptr (id off : Nat)
 | apt (id sz i off : Nat)
 | sl (sz : Nat) (xs : List (List AV))
 | osl (id sz off len : Nat)
 | bsl (id off len : Nat)
 | el (sz : Nat) (xs : List (List AV)) (i off : Nat)
 | agg (cs : List AV)
 | tup (xs : List AV)
 | clo (f : FuncId) (cap : List AV)
 | grd (g : Bool) (a : AV)
 | mp (id : Nat)
 | erb (g : Bool)
 | junk
structure Ghost where
 f : Nat -> Option (Nat × Nat)
 inn : Nat -> List Nat
def noG : Ghost := ⟨fun _ => none, fun _ => []⟩
instance : CoeFun Ghost fun _ => Nat -> Option (Nat × Nat) := ⟨Ghost.f⟩
mutual
def rep (w : World) (β : Ghost) (nx : Nat) (ow : Nat -> Prop) : AV -> Value -> Prop
 | .v x, u => u = x
 | .ptr id off, u => id < nx /\ ∃ b C, β id = some (b, C) /\ u = .pointer (some ⟨b, off, none⟩)
 | .apt id sz i off, u => id < nx /\ ∃ b C, β id = some (b, C) /\ u = .pointer (some ⟨b, i * sz + off, none⟩)
 | .sl sz xs, u => (xs = [] /\ ∃ a cap, u = .slice a 0 cap) \/ ∃ b o cap, u = .slice (some ⟨b, o, none⟩) xs.length cap /\ xs.length <= cap /\ ¬ ow b /\ b < w.heap.size /\ q0j w β ow sz b xs o
 | .osl id sz off len, u => id < nx /\ ((β id = none /\ off = 0 /\ len = 0 /\ u = .slice none 0 0) \/
   ∃ b C cap a, β id = some (b, C) /\ u = .slice (some a) len cap /\ len <= cap /\ off + cap <= C /\ (a = ⟨b, off * sz, none⟩ \/ cap = 0 /\ off ≠ 0))
 | .bsl id off len, u => id < nx /\ ∃ b C cap a, β id = some (b, C) /\ u = .slice (some a) len cap /\ len <= cap /\ (a = ⟨b, off, none⟩ \/ len = 0)
 | .el sz xs i off, u => ∃ b o, u = .pointer (some ⟨b, o + i * sz + off, none⟩) /\ ¬ ow b /\ b < w.heap.size /\ q0j w β ow sz b xs o
 | .agg cs, u => ∃ l, u = .agg ⟨l⟩ /\ x9 w β nx ow cs l
 | .tup cs, u => ∃ l, u = .tuple ⟨l⟩ /\ x9 w β nx ow cs l
 | .clo f cs, u => ∃ l, u = .func (.func f) #[] ⟨l⟩ /\ x9 w β nx ow cs l
 | .grd g a, u => (g = true -> rep w β nx ow a u) /\ (g = false -> u = undef)
 | .mp id, u => id < nx /\ ∃ b C, β id = some (b, C) /\ u = .map (some b)
 | .erb g, u => (g = true -> u = .nilIface) /\ (g = false -> ∃ t p, u = .iface t p)
 | .junk, _ => True
def x9 (w : World) (β : Ghost) (nx : Nat) (ow : Nat -> Prop) : List AV -> List Value -> Prop
 | [], [] => True
 | a :: as, u :: us => rep w β nx ow a u /\ x9 w β nx ow as us
 | _, _ => False
def q3s (w : World) (β : Ghost) (ow : Nat -> Prop) (b : Nat) : List AV -> Nat -> Prop
 | [], _ => True
 | a :: as, o => (∃ u, w.cell? ⟨b, o, none⟩ = some u /\ u.oneCell' = true /\ rep w β 0 ow a u) /\ q3s w β ow b as (o + 1)
def q0j (w : World) (β : Ghost) (ow : Nat -> Prop) (sz b : Nat) : List (List AV) -> Nat -> Prop
 | [], _ => True
 | r :: rs, o => r.length = sz /\ q3s w β ow b r o /\ q0j w β ow sz b rs (o + sz)
end
def Agree (w w' : World) (ow ow' : Nat -> Prop) : Prop := w.heap.size <= w'.heap.size /\ ∀ b, ¬ ow b -> b < w.heap.size -> w'.heap[b]? = w.heap[b]? /\ ¬ ow' b
section mono
variable {w w' : World} {β β' : Ghost} {nx nx' : Nat} {ow ow' : Nat -> Prop}
mutual
theorem q4v (hA : Agree w w' ow ow') : ∀ (nx nx' : Nat), nx <= nx' -> (∀ id, id < nx -> β' id = β id) -> ∀ (a : AV) (u : Value), rep w β nx ow a u -> rep w' β' nx' ow' a u
 | nx, nx', hn, hb, .v x, u, h => by simpa only [rep] using h
 | nx, nx', hn, hb, .ptr id off, u, h => by
  simp only [rep] at h ⊢; obtain ⟨h1, b, C, h2, h3⟩ := h; exact ⟨Xf h1 hn, b, C, (hb id h1).trans h2, h3⟩
 | nx, nx', hn, hb, .apt id sz i off, u, h => by
  simp only [rep] at h ⊢; obtain ⟨h1, b, C, h2, h3⟩ := h; exact ⟨Xf h1 hn, b, C, (hb id h1).trans h2, h3⟩
 | nx, nx', hn, hb, .sl sz xs, u, h => by
  simp only [rep] at h ⊢; rcases h with h | ⟨b, o, cap, h1, h2, h3, h4, h5⟩
  . exact .inl h
  . exact .inr ⟨b, o, cap, h1, h2, (hA.2 b h3 h4).2, Xf h4 hA.1, q1r hA sz b (fun o u hu => (World.cell?_of_block (w := w) (a := ⟨b, o, none⟩) (hA.2 b h3 h4).1).trans hu) xs o h5⟩
 | nx, nx', hn, hb, .osl id sz off len, u, h => by
  simp only [rep] at h ⊢; obtain ⟨h1, h2⟩ := h; refine ⟨Xf h1 hn, ?_⟩; rcases h2 with ⟨h2, h3⟩ | ⟨b, C, cap, a, h2, h3⟩
  . exact .inl ⟨(hb id h1).trans h2, h3⟩
  . exact .inr ⟨b, C, cap, a, (hb id h1).trans h2, h3⟩
 | nx, nx', hn, hb, .bsl id off len, u, h => by
  simp only [rep] at h ⊢; obtain ⟨h1, b, C, cap, a, h2, h3⟩ := h; exact ⟨Xf h1 hn, b, C, cap, a, (hb id h1).trans h2, h3⟩
 | nx, nx', hn, hb, .el sz xs i off, u, h => by
  simp only [rep] at h ⊢; obtain ⟨b, o, h1, h3, h4, h5⟩ := h; exact ⟨b, o, h1, (hA.2 b h3 h4).2, Xf h4 hA.1, q1r hA sz b (fun o u hu => (World.cell?_of_block (w := w) (a := ⟨b, o, none⟩) (hA.2 b h3 h4).1).trans hu) xs o h5⟩
 | nx, nx', hn, hb, .agg cs, u, h => by
  simp only [rep] at h ⊢; obtain ⟨l, h1, h2⟩ := h; exact ⟨l, h1, q1h hA nx nx' hn hb cs l h2⟩
 | nx, nx', hn, hb, .tup cs, u, h => by
  simp only [rep] at h ⊢; obtain ⟨l, h1, h2⟩ := h; exact ⟨l, h1, q1h hA nx nx' hn hb cs l h2⟩
 | nx, nx', hn, hb, .clo f cs, u, h => by
  simp only [rep] at h ⊢; obtain ⟨l, h1, h2⟩ := h; exact ⟨l, h1, q1h hA nx nx' hn hb cs l h2⟩
 | nx, nx', hn, hb, .grd g a, u, h => by
  simp only [rep] at h ⊢; exact ⟨fun hg => q4v hA nx nx' hn hb a u (h.1 hg), h.2⟩
 | nx, nx', hn, hb, .mp id, u, h => by
  simp only [rep] at h ⊢; obtain ⟨h1, b, C, h2, h3⟩ := h; exact ⟨Xf h1 hn, b, C, (hb id h1).trans h2, h3⟩
 | nx, nx', hn, hb, .erb g, u, h => by simpa only [rep] using h
 | nx, nx', hn, hb, .junk, u, h => by simp only [rep]
theorem q1h (hA : Agree w w' ow ow') : ∀ (nx nx' : Nat), nx <= nx' -> (∀ id, id < nx -> β' id = β id) -> ∀ (as : List AV) (us : List Value), x9 w β nx ow as us -> x9 w' β' nx' ow' as us
 | nx, nx', hn, hb, [], [], h => by simp only [x9]
 | nx, nx', hn, hb, a :: as, u :: us, h => by
  simp only [x9] at h ⊢; exact ⟨q4v hA nx nx' hn hb a u h.1, q1h hA nx nx' hn hb as us h.2⟩
 | nx, nx', hn, hb, [], u :: us, h => by simp only [x9] at h
 | nx, nx', hn, hb, a :: as, [], h => by simp only [x9] at h
theorem z6b (hA : Agree w w' ow ow') (b : Nat) (hb : ∀ o u, w.cell? ⟨b, o, none⟩ = some u -> w'.cell? ⟨b, o, none⟩ = some u) : ∀ (as : List AV) (o : Nat), q3s w β ow b as o -> q3s w' β' ow' b as o
 | [], o, h => by simp only [q3s]
 | a :: as, o, h => by
  simp only [q3s] at h ⊢; obtain ⟨⟨u, h1, h0, h2⟩, h3⟩ := h; exact ⟨⟨u, hb o u h1, h0, q4v hA 0 0 (Xe _) (fun _ hi => absurd hi (Yf _)) a u h2⟩, z6b hA b hb as (o + 1) h3⟩
theorem q1r (hA : Agree w w' ow ow') (sz b : Nat) (hb : ∀ o u, w.cell? ⟨b, o, none⟩ = some u -> w'.cell? ⟨b, o, none⟩ = some u) : ∀ (rs : List (List AV)) (o : Nat), q0j w β ow sz b rs o -> q0j w' β' ow' sz b rs o
 | [], o, h => by simp only [q0j]
 | r :: rs, o, h => by
  simp only [q0j] at h ⊢; exact ⟨h.1, z6b hA b hb r o h.2.1, q1r hA sz b hb rs (o + sz) h.2.2⟩
end
end mono
def j66 (w : World) (b : Nat) (ok : Value -> Prop) (ks : List Value) (foc : Option Nat) (us : List Value) : Prop :=
 ∃ es clock, w.heap[b]? = some (.map es clock) /\ es.toList.map (·.key) = ks /\ ks.Nodup /\ (∀ x ∈ ks, ok x) /\ ∀ i, foc = some i -> ∃ u, us = [u] /\ (es.toList[i]?).map (·.val) = some u
structure Con where
 k : Option Nat
 P : World -> Nat -> Nat -> List Nat -> (Nat -> Prop) -> List Value -> Prop
 N : Prop
 raw : Bool := false
 mpk : Option ((Value -> Prop) × List Value × Option Nat) := none
 mpl : ∀ {w : World} {b C : Nat} {L : List Nat} {ow : Nat -> Prop} {us : List Value} {ok : Value -> Prop} {ks : List Value} {foc : Option Nat}, mpk = some (ok, ks, foc) -> P w b C L ow us -> j66 w b ok ks foc us := by intros; contradiction
 mono : ∀ {w w' : World} {b C : Nat} {L : List Nat} {ow ow' : Nat -> Prop} {us : List Value}, Agree w w' ow ow' -> (∀ b', b' = b \/ b' ∈ L -> w'.heap[b']? = w.heap[b']?) -> P w b C L ow us -> P w' b C L ow' us
 cells : ∀ {w : World} {b C : Nat} {L : List Nat} {ow : Nat -> Prop} {us : List Value} {n : Nat}, k = some n -> P w b C L ow us -> ∃ hd tl T, hd.length = n /\ w.heap[b]? = some (.cells ⟨hd ++ us ++ tl⟩ T (0, 0))
 wr : ∀ {w w' : World} {b C : Nat} {L : List Nat} {ow ow' : Nat -> Prop} {us us' hd tl : List Value} {T : TypeId} {n : Nat}, k = some n -> hd.length = n -> P w b C L ow us -> w.heap[b]? = some (.cells ⟨hd ++ us ++ tl⟩ T (0, 0)) -> us'.length = us.length ->
  w'.heap[b]? = some (.cells ⟨hd ++ us' ++ tl⟩ T (0, 0)) -> (∀ b' ∈ L, w'.heap[b']? = w.heap[b']?) -> Agree w w' ow ow' -> P w' b C L ow' us'
def z1w (e : TypeId) : Con where
 k := some 0
 P w b _ _ _ us := w.heap[b]? = some (.cells ⟨us⟩ e (0, 0))
 N := False
 mono _ hk h := (hk _ (.inl rfl)).trans h
 cells hn h := ⟨[], [], e, by simpa using hn, by rw [X8, Yo]; exact h⟩
 wr {w w' b C L ow ow' us us' hd tl T n} hn hl h h1 h2 h3 _ _ := by
  simp only [Xa] at hn; subst hn; obtain rfl := Xh hl; rw [h] at h1; simp only [X8, Xa, Obj.cells.injEq, Array.mk.injEq, and_true] at h1; obtain ⟨h4, rfl⟩ := h1; have : tl = [] := Xh (by have := congrArg List.length h4; simp at this; simpa using this); subst this
  simpa using h3
theorem j9g {e : TypeId} : (z1w e).k = some 0 := rfl
theorem j52 {e : TypeId} : (z1w e).raw = false := rfl
theorem j9h {e : TypeId} : (z1w e).N = False := rfl
def j0j (T E : TypeId) (l : List UInt8) : Con where
 k := some 2
 P w b _ L _ us := ∃ p v, w.heap[b]? = some (.cells ⟨p :: v :: us⟩ T (0, 0)) /\ (p = .pointer none \/ p = .pointer (some ⟨b, 0, none⟩)) /\
  ((v = .slice none 0 0 /\ l = []) \/ ∃ g cap cur, 0 < cap /\ g ∈ L /\ g ≠ b /\ v = .slice (some ⟨g, 0, none⟩) l.length cap /\ w.heap[g]? = some (.cells cur E (0, 0)) /\ l.length <= cap /\ cap <= maxLen /\ cur.size = cap /\ ∀ (j : Nat) x, l[j]? = some x -> cur[j]? = some (.int .u8 x.toNat))
 N := False
 mono := fun _ hk ⟨p, v, h1, h2, h3⟩ => ⟨p, v, (hk _ (.inl rfl)).trans h1, h2, h3.imp id fun ⟨g, cap, cur, g0, g1, g2, g3, g4, g5⟩ => ⟨g, cap, cur, g0, g1, g2, g3, (hk _ (.inr g1)).trans g4, g5⟩⟩
 cells := fun hn ⟨p, v, h1, _⟩ => ⟨[p, v], [], T, by simpa using hn, by rw [Yo]; exact h1⟩
 wr := fun {w w' b C L ow ow' us us' hd tl T' n} hn hl ⟨p, v, h1, h2, h3⟩ h4 h5 h6 h7 _ => by
  simp only [Xa] at hn; subst hn; rw [h1] at h4; simp only [Xa, Obj.cells.injEq, and_true] at h4; obtain ⟨e1, e2⟩ := h4; have e3 : [p, v] ++ us = hd ++ (us ++ tl) := by simpa using e1
  obtain ⟨e4, e5⟩ := List.append_inj e3 (by simpa using hl.symm); have : tl = [] := Xh (by have := congrArg List.length e5; simp at this; simpa using this); subst e4 e2 this; rw [Yo] at h6; exact ⟨p, v, h6, h2, h3.imp id fun ⟨g, cap, cur, g0, g1, g2, g3, g4, g5⟩ => ⟨g, cap, cur, g0, g1, g2, g3, (h7 _ g1).trans g4, g5⟩⟩
theorem j9i {T E : TypeId} {l : List UInt8} : (j0j T E l).k = some 2 := rfl
theorem j57 {T E : TypeId} {l : List UInt8} : (j0j T E l).raw = false := rfl
theorem j9j {T E : TypeId} {l : List UInt8} : (j0j T E l).N = False := rfl
def hintK : Con where
 k := none
 P _ _ _ _ _ _ := False
 N := True
 raw := true
 mono _ _ h := h.elim
 cells hn _ := by cases hn
 wr hn _ _ _ _ _ _ _ := by cases hn
theorem j2c : hintK.raw = true := rfl
inductive AObj where
 | box (cs : List AV)
 | arr (sz : Nat) (xs : List (List AV))
 | con (K : Con) (ex : List AV)
def q94 : AObj -> Bool | .con .. => true | _ => false
abbrev Hp := List (Nat × AObj)
def bof (β : Ghost) (id b : Nat) : Prop := (∃ C, β id = some (b, C)) \/ b ∈ β.inn id
def blks (β : Ghost) (hp : Hp) (b : Nat) : Prop := ∃ q ∈ hp, bof β q.1 b
def own (β : Ghost) (hp : Hp) (A : Nat -> Prop) (b : Nat) : Prop := A b \/ blks β hp b
def q5f (w : World) (β : Ghost) (nx : Nat) (ow : Nat -> Prop) (id : Nat) : AObj -> Prop
 | .box cs => ∃ b C cur e, β id = some (b, C) /\ w.heap[b]? = some (.cells cur e (0, 0)) /\ x9 w β nx ow cs cur.toList
 | .arr sz xs => (β id = none /\ xs = []) \/ ∃ b C cur e, β id = some (b, C) /\ w.heap[b]? = some (.cells cur e (0, 0)) /\ cur.size = C * sz /\ xs.length <= C /\ C <= maxLen /\ q0j w β ow sz b xs 0
 | .con K ex => (∃ b C us, β id = some (b, C) /\ b < w.heap.size /\ K.P w b C (β.inn id) ow us /\ x9 w β nx ow ex us) \/ (β id = none /\ K.N /\ ex = [])
structure HpRel (w : World) (β : Ghost) (nx : Nat) (A : Nat -> Prop) (hp : Hp) : Prop where
 obj : ∀ p ∈ hp, q5f w β nx (own β hp A) p.1 p.2
 lt : ∀ p ∈ hp, p.1 < nx
 nd : (hp.map (·.1)).Nodup
 inj : ∀ p ∈ hp, ∀ q ∈ hp, ∀ b C C', β p.1 = some (b, C) -> β q.1 = some (b, C') -> p.1 = q.1
 av : ∀ p ∈ hp, ∀ b C, β p.1 = some (b, C) -> ¬ A b
 i0 : ∀ p ∈ hp, q94 p.2 = false -> β.inn p.1 = []
 ib : ∀ p ∈ hp, ∀ b ∈ β.inn p.1, b < w.heap.size /\ ¬ A b /\ (∀ q ∈ hp, ∀ C, β q.1 ≠ some (b, C)) /\ ∀ q ∈ hp, b ∈ β.inn q.1 -> q.1 = p.1
def dkF : Bool := true
structure Ext (w0 : World) (β0 : Ghost) (nx0 : Nat) (hp0 : Hp) (w : World) (β : Ghost) (nx : Nat) (hp : Hp) : Prop where
 nx : nx0 <= nx
 gh : ∀ id, id < nx0 -> β id = β0 id
 gi : ∀ id, id < nx0 -> id ∉ hp0.map (·.1) -> β.inn id = β0.inn id
 ids : ∀ p ∈ hp, p.1 ∈ hp0.map (·.1) \/ nx0 <= p.1
 blk : ∀ p ∈ hp, ∀ b, bof β p.1 b -> blks β0 hp0 b \/ w0.heap.size <= b
 os : w.os = w0.os
 tape : w.tape = w0.tape
 output : w.output = w0.output /\ (dkF = true -> w0.drawn <= w.drawn)
 size : w0.heap.size <= w.heap.size
 keep : ∀ b, b < w0.heap.size -> ¬ blks β0 hp0 b -> w.heap[b]? = w0.heap[b]?
structure St where
 nb : Nat
 env : List (Nat × AV)
 hp : Hp
 nx : Nat
 nt : Nat
def q0u : List (Nat × AV) -> Nat -> AV
 | [], _ => .junk
 | (k, a) :: r, t => if k = t then a else q0u r t
def glTab : List (String × (List Value -> Prop)) :=
  [("internal/strconv.uint64pow10", fun cs => cs = (Yy 20).map fun k => .int .u64 ((10 ^ k : Nat) : Int)),
   ("strconv.ErrSyntax", fun cs => ∃ t p, cs = [.iface t p]),
   ("strconv.ErrRange", fun cs => ∃ t p, cs = [.iface t p]),
   ("internal/bytealg.MaxLen", fun cs => ∃ m, cs = [.int .i64 m]),
   ("strings.asciiSpace", fun cs => cs = (Yy 256).map fun k => .int .u8 (if k = 9 \/ k = 10 \/ k = 11 \/ k = 12 \/ k = 13 \/ k = 32 then 1 else 0))]
def GLW (P : Program) (w : World) : Prop := ∀ q ∈ glTab, ∀ g, P.globalNamed q.1 = some g -> ∃ cs e z, w.heap[g]? = some (.cells cs e z) /\ q.2 cs.toList
structure GS (P : Program) (w : World) (β : Ghost) (hp : Hp) : Prop where
 gl : GLW P w
 off : ∀ q ∈ glTab, ∀ g, P.globalNamed q.1 = some g -> ¬ blks β hp g
theorem GLW.lt {P : Program} {w : World} (h : GLW P w) {q} (hq : q ∈ glTab) {g : Nat} (hg : P.globalNamed q.1 = some g) : g < w.heap.size :=
 let ⟨_, _, _, h1, _⟩ := h q hq g hg
 (Xl.1 h1).1
theorem GLW.none {P : Program} {w : World} (h : glTab.all (fun q => (P.globalNamed q.1).isNone) = true) : GLW P w := fun q hq g hg => by
 have := List.all_eq_true.1 h q hq; rw [hg] at this; cases this
theorem GS.ext {P : Program} {w0 w : World} {β0 β : Ghost} {nx0 nx : Nat} {hp0 hp : Hp} (h : GS P w0 β0 hp0) (he : Ext w0 β0 nx0 hp0 w β nx hp) : GS P w β hp where
 gl := fun q hq g hg =>
  let ⟨cs, e, z, h1, h2⟩ := h.gl q hq g hg
  ⟨cs, e, z, (he.keep g (h.gl.lt hq hg) (h.off q hq g hg)).trans h1, h2⟩
 off := fun q hq g hg ⟨p, hp, hb⟩ => (he.blk p hp g hb).elim (h.off q hq g hg) fun hs => absurd (h.gl.lt hq hg) (Nat.not_lt.2 hs)
theorem GS.sub {P : Program} {w : World} {β β' : Ghost} {hp hp' : Hp} (h : GS P w β hp) (hs : ∀ b, blks β' hp' b -> blks β hp b) : GS P w β' hp' := ⟨h.gl, fun q hq g hg hb => h.off q hq g hg (hs g hb)⟩
structure Ctx (P : Program) where
 w0 : World
 β0 : Ghost
 nx0 : Nat
 hp0 : Hp
 A : Nat -> Prop
 nt : Nat
structure Rel {P : Program} (C : Ctx P) (s : St) (a : Act) (w : World) (β : Ghost) : Prop where
 df : a.defers = []
 nt : a.tmps.size = s.nt
 env : ∀ t, rep w β s.nx (own β s.hp C.A) (q0u s.env t) (a.tmps.getD t undef)
 hp : HpRel w β s.nx C.A s.hp
 ext : Ext C.w0 C.β0 C.nx0 C.hp0 w β s.nx s.hp
 alt : ∀ b, C.A b -> b < w.heap.size
 gs : GS P C.w0 C.β0 C.hp0
 nb : C.nx0 = s.nb
 ntc : s.nt = C.nt
def q00 (P : Program) (f : FuncId) : Bool := match P.funcs[f]? with
 | some fn => !(fn.name == "runtime.NumGoroutine") && fn.body.isSome
 | none => false
def CallsE (P : Program) (f : FuncId) (args : Array Value) (w : World) (Q : Ending -> World -> Prop) : Prop :=
 (q00 P f = true -> Calls P f args w Q) /\ (q00 P f = false -> ∃ v w', (callFunc f args).run P w = .ok (.value v) w' /\ Q (.returned v) w')
theorem CallsE.mono {P : Program} {f : FuncId} {args : Array Value} {w : World} {Q Q' : Ending -> World -> Prop} (h : CallsE P f args w Q) (hq : ∀ e w', Q e w' -> Q' e w') : CallsE P f args w Q' :=
 ⟨fun hb => (h.1 hb).mono hq, fun hb => let ⟨v, w', h1, h2⟩ := h.2 hb; ⟨v, w', h1, hq _ _ h2⟩⟩
theorem CallsE.of {P : Program} {f : FuncId} {args : Array Value} {w : World} {Q : Ending -> World -> Prop} (hb : q00 P f = true) (h : Calls P f args w Q) : CallsE P f args w Q :=
 ⟨fun _ => h, fun hn => by rw [hb] at hn; cases hn⟩
def Spec (P : Program) (f : FuncId) (args : List AV) (hp : Hp) (nx : Nat) (Q : AV -> Hp -> Nat -> Prop) : Prop :=
 ∀ (w : World) (β : Ghost) (A : Nat -> Prop) (vs : List Value), (∀ b, A b -> b < w.heap.size) -> x9 w β nx (own β hp A) args vs -> HpRel w β nx A hp -> GS P w β hp ->
  CallsE P f ⟨vs⟩ w fun e w' => ∃ v r hp' nx' β', e = .returned v /\ Q r hp' nx' /\ rep w' β' nx' (own β' hp' A) r v /\ HpRel w' β' nx' A hp' /\ Ext w β nx hp w' β' nx' hp'
theorem Spec.mono {P : Program} {f : FuncId} {args : List AV} {hp : Hp} {nx : Nat} {Q Q' : AV -> Hp -> Nat -> Prop} (h : Spec P f args hp nx Q) (hq : ∀ r hp' nx', Q r hp' nx' -> Q' r hp' nx') : Spec P f args hp nx Q' :=
 fun w β A vs h1 h2 h3 h4 => (h w β A vs h1 h2 h3 h4).mono fun _ _ ⟨v, r, hp', nx', β', e, q, rest⟩ => ⟨v, r, hp', nx', β', e, hq _ _ _ q, rest⟩
theorem HpRel.blt {w : World} {β : Ghost} {nx : Nat} {A : Nat -> Prop} {hp : Hp} (h : HpRel w β nx A hp) : ∀ p ∈ hp, ∀ b C, β p.1 = some (b, C) -> b < w.heap.size := by
 intro p hp' b C hb; have := h.obj p hp'
 cases ho : p.2 with
 | box cs =>
  rw [ho] at this; obtain ⟨b', C', cur, e, h1, h2, _⟩ := this; rw [hb] at h1; simp only [Xa, Xb] at h1; rw [<- h1.1] at h2; exact (Xl.1 h2).1
 | arr sz xs =>
  rw [ho] at this; rcases this with ⟨h1, _⟩ | ⟨b', C', cur, e, h1, h2, _⟩
  . rw [hb] at h1; cases h1
  . rw [hb] at h1; simp only [Xa, Xb] at h1; rw [<- h1.1] at h2; exact (Xl.1 h2).1
 | con K ex =>
  rw [ho] at this; rcases this with ⟨b', C', us, h1, h2, _⟩ | ⟨h1, _⟩
  . rw [hb] at h1; simp only [Xa, Xb] at h1; rw [h1.1]; exact h2
  . rw [hb] at h1; cases h1
theorem HpRel.bofLt {w : World} {β : Ghost} {nx : Nat} {A : Nat -> Prop} {hp : Hp} (h : HpRel w β nx A hp) : ∀ p ∈ hp, ∀ b, bof β p.1 b -> b < w.heap.size := fun p hp b hb => hb.elim (fun ⟨C, hc⟩ => h.blt p hp b C hc) (fun hi => (h.ib p hp b hi).1)
theorem HpRel.bofAv {w : World} {β : Ghost} {nx : Nat} {A : Nat -> Prop} {hp : Hp} (h : HpRel w β nx A hp) : ∀ p ∈ hp, ∀ b, bof β p.1 b -> ¬ A b := fun p hp b hb => hb.elim (fun ⟨C, hc⟩ => h.av p hp b C hc) (fun hi => (h.ib p hp b hi).2.1)
theorem HpRel.bofInj {w : World} {β : Ghost} {nx : Nat} {A : Nat -> Prop} {hp : Hp} (h : HpRel w β nx A hp) : ∀ p ∈ hp, ∀ q ∈ hp, ∀ b, bof β p.1 b -> bof β q.1 b -> p.1 = q.1 := fun p hp q hq b h1 h2 => by
 rcases h1 with ⟨C, hc⟩ | h1 <;> rcases h2 with ⟨C', hc'⟩ | h2
 . exact h.inj p hp q hq b C C' hc hc'
 . exact absurd hc ((h.ib q hq b h2).2.2.1 p hp C)
 . exact absurd hc' ((h.ib p hp b h1).2.2.1 q hq C')
 . exact ((h.ib p hp b h1).2.2.2 q hq h2).symm
theorem q6s {β : Ghost} {hp : Hp} {p : Nat × AObj} {b C : Nat} (hp1 : p ∈ hp) (h : β p.1 = some (b, C)) : blks β hp b := ⟨p, hp1, .inl ⟨C, h⟩⟩
theorem q3m {w w' : World} {β β' : Ghost} {nx nx' : Nat} {ow ow' : Nat -> Prop} (hA : Agree w w' ow ow') (hn : nx <= nx') (hb : ∀ id, id < nx -> β' id = β id)
  {id : Nat} (hid : id < nx) {o : AObj} (hk : ∀ b, bof β id b -> w'.heap[b]? = w.heap[b]?) (hi : q94 o = true -> β'.inn id = β.inn id) (h : q5f w β nx ow id o) : q5f w' β' nx' ow' id o := by
 cases o with
 | box cs =>
  obtain ⟨b, C, cur, e, h1, h2, h3⟩ := h; exact ⟨b, C, cur, e, (hb id hid).trans h1, (hk b (.inl ⟨C, h1⟩)).trans h2, q1h hA nx nx' hn hb _ _ h3⟩
 | arr sz xs =>
  rcases h with ⟨h1, h2⟩ | ⟨b, C, cur, e, h1, h2, h3, h4, h5, h6⟩
  . exact .inl ⟨(hb id hid).trans h1, h2⟩
  . exact .inr ⟨b, C, cur, e, (hb id hid).trans h1, (hk b (.inl ⟨C, h1⟩)).trans h2, h3, h4, h5, q1r hA sz b (fun o u hu => (World.cell?_of_block (w := w) (a := ⟨b, o, none⟩) (hk b (.inl ⟨C, h1⟩))).trans hu) xs 0 h6⟩
 | con K ex =>
  rcases h with ⟨b, C, us, h1, h2, h3, h4⟩ | ⟨h1, h2, h3⟩
  . refine .inl ⟨b, C, us, (hb id hid).trans h1, Xf h2 hA.1, ?_, q1h hA nx nx' hn hb _ _ h4⟩; rw [hi rfl]; exact K.mono hA (fun b' hb' => hk b' (hb'.elim (fun e => .inl ⟨C, by rw [e]; exact h1⟩) .inr)) h3
  . exact .inr ⟨(hb id hid).trans h1, h2, h3⟩
end
section
open Go Go.RowKit
def AV.st : AV -> AV | .grd _ a => a | a => a
def AV.need : AV -> Prop | .grd g _ => g = true | _ => True
theorem q1b {w : World} {β : Ghost} {nx : Nat} {ow : Nat -> Prop} {a : AV} {u : Value} (h : rep w β nx ow a u) (hn : a.need) : rep w β nx ow a.st u := by
 cases a <;> first | exact h | (simp only [rep] at h; exact h.1 hn)
def u6 (env : List (Nat × AV)) : Operand -> AV
 | .tmp t => q0u env t
 | .const v => .v v
 | .global g => .v (.pointer (some ⟨g, 0, none⟩))
 | .func f => .clo f []
def szT (P : Program) (t : TypeId) : Nat := ((P.info? t).map (·.size)).getD 0
def q12 (P : Program) (t : TypeId) : Bool := (P.info? t).isSome && (P.underlying t).isSome
def q5c (P : Program) (t : TypeId) : Bool := match P.underlying t with | some (.struct _) | some (.array _ _) => true | _ => false
def qj9 (P : Program) (t : TypeId) : Option IntKind := match P.underlying t with | some (.int k) => some k | _ => none
def sliceT (P : Program) (t : TypeId) : Option TypeId := match P.underlying t with | some (.slice e) => some e | _ => none
def qe6 (P : Program) (t : TypeId) : Option (Nat × TypeId) := match P.underlying t with | some (.array n e) => some (n, e) | _ => none
def q0v (P : Program) (t : TypeId) (f : Nat) : Option (Nat × TypeId) := match P.underlying t with | some (.struct fs) => (fs[f]?).map fun f => (f.offset, f.type) | _ => none
def qo4 (k : IntKind) (a b : Int) : Int := k.wrap (BitVec.ofInt k.bits a &&& BitVec.ofInt k.bits b).toNat
def orI (k : IntKind) (a b : Int) : Int := k.wrap (BitVec.ofInt k.bits a ||| BitVec.ofInt k.bits b).toNat
def j37 (k : IntKind) (a b : Int) : Int := k.wrap (BitVec.ofInt k.bits a ^^^ BitVec.ofInt k.bits b).toNat
def zv9 (k : IntKind) (a b : Int) : Int := k.wrap (BitVec.ofInt k.bits a &&& ~~~ BitVec.ofInt k.bits b).toNat
def j8c (k : IntKind) (a b : Int) : Int := k.wrap (a * 2 ^ (min b.toNat k.bits))
def q29 (k : IntKind) (a b : Int) : Int := a.fdiv (2 ^ (min b.toNat k.bits))
def j0l (op : BinOp) : AV -> AV -> Option (Prop × AV)
 | .v (.int k a), .v (.int k' b) => match op with
  | .add => some (k = k', .v (.int k (k.wrap (a + b))))
  | .sub => some (k = k', .v (.int k (k.wrap (a - b))))
  | .mul => some (k = k', .v (.int k (k.wrap (a * b))))
  | .quo => some (k = k' /\ b ≠ 0, .v (.int k (k.wrap (a.tdiv b))))
  | .rem => some (k = k' /\ b ≠ 0, .v (.int k (a.tmod b)))
  | .and => some (k = k', .v (.int k (qo4 k a b)))
  | .or => some (k = k', .v (.int k (orI k a b)))
  | .xor => some (k = k', .v (.int k (j37 k a b)))
  | .andNot => some (k = k', .v (.int k (zv9 k a b)))
  | .shl => some (0 <= b, .v (.int k (j8c k a b)))
  | .shr => some (0 <= b, .v (.int k (q29 k a b)))
  | .eql => some (k = k', .v (.bool (a == b)))
  | .neq => some (k = k', .v (.bool (a != b)))
  | .lss => some (k = k', .v (.bool (decide (a < b))))
  | .leq => some (k = k', .v (.bool (decide (a <= b))))
  | .gtr => some (k = k', .v (.bool (decide (a > b))))
  | .geq => some (k = k', .v (.bool (decide (a ≥ b))))
 | _, _ => none
theorem j0k {P : Program} {w : World} {β : Ghost} {nx : Nat} {ow : Nat -> Prop} {op : BinOp} {t : TypeId} {xo yo : Operand} {x y r : AV} {c : Prop} {u v : Value}
    (h : j0l op x y = some (c, r)) (hc : c) (hx : rep w β nx ow x u) (hy : rep w β nx ow y v) :
    ∃ z, (do eqGuard op t xo yo u v; binOp op t u v : Sem Value).run P w = .ok z w /\ rep w β nx ow r z := by
  unfold j0l at h
  split at h
  . rename_i k a k' b
    simp only [rep] at hx hy; subst hx hy
    cases op <;> simp only [Xa, Xb] at h <;> obtain ⟨rfl, rfl⟩ := h <;>
      first
      | (refine ⟨_, ?_, by simp only [rep]; rfl⟩; subst hc; simp [eqGuard, binOp, Op.intArith, Op.intCmp, Op.intBits, qo4, orI, j37, zv9]; done)
      | (obtain ⟨rfl, hb⟩ := hc; refine ⟨_, ?_, by simp only [rep]; rfl⟩; simp [eqGuard, binOp, Op.intDiv, hb]; done)
      | (refine ⟨_, ?_, by simp only [rep]; rfl⟩; have hb : ¬ b < 0 := by omega
         simp [eqGuard, binOp, Op.shift, hb, j8c, q29]; done)
  . cases h
end
section
open Go Go.RowKit
def q0e : Hp -> Nat -> Option AObj
 | [], _ => none
 | (k, o) :: r, id => if k = id then some o else q0e r id
theorem q0g : ∀ {hp : Hp} {id : Nat} {o : AObj}, q0e hp id = some o -> (id, o) ∈ hp
 | [], _, _, h => by simp [q0e] at h
 | (k, o') :: r, id, o, h => by
  unfold q0e at h
  split at h
  . rename_i hk; subst hk; simp only [Xa] at h; subst h; exact Xu
  . exact Xj _ (q0g h)
section
variable {w : World} {β : Ghost} {nx : Nat} {ow : Nat -> Prop}
theorem Agree.refl (w : World) (ow : Nat -> Prop) : Agree w w ow ow := ⟨Xe _, fun _ h _ => ⟨rfl, h⟩⟩
theorem q1f : ∀ {as : List AV} {us : List Value}, x9 w β nx ow as us -> as.length = us.length
 | [], [], _ => rfl
 | _ :: _, _ :: _, h => by simp only [x9] at h; simp [q1f h.2]
 | [], _ :: _, h => by simp only [x9] at h
 | _ :: _, [], h => by simp only [x9] at h
theorem qn8 : ∀ {as : List AV} {us : List Value}, x9 w β nx ow as us -> ∀ (j : Nat), j < as.length -> rep w β nx ow (as.getD j .junk) (us.getD j undef)
 | a :: as, u :: us, h, 0, _ => by simp only [x9] at h; exact h.1
 | a :: as, u :: us, h, j + 1, hj => by simp only [x9] at h; simpa using qn8 h.2 j (by simpa using hj)
 | [], _, _, _, hj => by simp at hj
 | _ :: _, [], h, _, _ => by simp only [x9] at h
theorem q74 : ∀ {as : List AV} {us : List Value}, x9 w β nx ow as us -> ∀ (k : Nat), x9 w β nx ow (as.drop k) (us.drop k)
 | [], [], _, k => by simp [x9]
 | a :: as, u :: us, h, 0 => h
 | a :: as, u :: us, h, k + 1 => by simp only [x9] at h; simpa using q74 h.2 k
 | [], _ :: _, h, _ => by simp only [x9] at h
 | _ :: _, [], h, _ => by simp only [x9] at h
theorem q64 : ∀ {as : List AV} {us : List Value}, x9 w β nx ow as us -> ∀ (k : Nat), x9 w β nx ow (as.take k) (us.take k)
 | [], [], _, k => by simp [x9]
 | a :: as, u :: us, h, 0 => by simp [x9]
 | a :: as, u :: us, h, k + 1 => by simp only [x9] at h; simp only [Yt, x9]; exact ⟨h.1, q64 h.2 k⟩
 | [], _ :: _, h, _ => by simp only [x9] at h
 | _ :: _, [], h, _ => by simp only [x9] at h
theorem q5g : ∀ {as bs : List AV} {us vs : List Value}, x9 w β nx ow as us -> x9 w β nx ow bs vs -> x9 w β nx ow (as ++ bs) (us ++ vs)
 | [], _, [], _, _, h => h
 | a :: as, bs, u :: us, vs, h, h' => by simp only [x9] at h; simp only [List.cons_append, x9]; exact ⟨h.1, q5g h.2 h'⟩
 | [], _, _ :: _, _, h, _ => by simp only [x9] at h
 | _ :: _, _, [], _, h, _ => by simp only [x9] at h
theorem qe8 {b : Nat} : ∀ {as : List AV} {o : Nat}, q3s w β ow b as o -> ∃ us, x9 w β 0 ow as us /\ (∀ u ∈ us, u.oneCell' = true) /\ ∀ (j : Nat) (u : Value), us[j]? = some u -> w.cell? ⟨b, o + j, none⟩ = some u
 | [], o, _ => ⟨[], by simp [x9], by simp, by simp⟩
 | a :: as, o, h => by
  simp only [q3s] at h; obtain ⟨⟨u, h1, h0, h2⟩, h3⟩ := h; obtain ⟨us, h4, h6, h5⟩ := qe8 h3; refine ⟨u :: us, by simp only [x9]; exact ⟨h2, h4⟩, fun x hx => by
   rcases Xc.1 hx with rfl | hx
   . exact h0
   . exact h6 x hx, ?_⟩
  intro j v hj
  cases j with
  | zero => simp at hj; subst hj; simpa using h1
  | succ j =>
   simp at hj; have := h5 j v hj
   rwa [show o + 1 + j = o + (j + 1) by omega] at this
theorem zc9 {as : List AV} {us : List Value} (h : x9 w β 0 ow as us) : x9 w β nx ow as us :=
 q1h (Agree.refl w ow) 0 nx (Yx _) (fun _ hi => absurd hi (Yf _)) as us h
def q30 (xs : List (List AV)) (i : Nat) : List AV := xs.getD i []
theorem qm2 {sz b : Nat} : ∀ {xs : List (List AV)} {o : Nat}, q0j w β ow sz b xs o -> ∀ (i : Nat), i < xs.length -> (q30 xs i).length = sz /\ q3s w β ow b (q30 xs i) (o + i * sz)
 | r :: rs, o, h, 0, _ => by simp only [q0j] at h; simpa [q30] using ⟨h.1, h.2.1⟩
 | r :: rs, o, h, i + 1, hi => by
  simp only [q0j] at h; have := qm2 h.2.2 i (by simpa using hi); simp only [q30, Yu] at this ⊢; rw [show o + (i + 1) * sz = o + sz + i * sz by rw [Xs]; omega]; exact this
 | [], _, _, _, hi => by simp at hi
end
section
variable {P : Program} {w : World} {β : Ghost} {nx : Nat} {ow : Nat -> Prop}
theorem qp3 {t : TypeId} (h : q12 P t = true) : ∃ i d, P.info? t = some i /\ P.underlying t = some d /\ i.size = szT P t := by
 simp only [q12, X1, Yk] at h; obtain ⟨⟨i, hi⟩, ⟨d, hd⟩⟩ := h; exact ⟨i, d, hi, hd, by simp [szT, hi]⟩
theorem q9y {t : TypeId} (h : q12 P t = true) : (isAgg t).run P w = .ok (q5c P t) w := by
 obtain ⟨i, d, hi, hd, hs⟩ := qp3 h; unfold isAgg q5c; simp only [Sem.run_bind, run_underlying hd, Result.andThen_ok, hd]
 cases d <;> rfl
theorem run_sizeOf {t : TypeId} (h : q12 P t = true) : (sizeOf t).run P w = .ok (szT P t) w := by
 obtain ⟨i, d, hi, hd, hs⟩ := qp3 h; simp [sizeOf, typeInfo, hi, hs]
def q7q (P : Program) (t : TypeId) (cs : List AV) (off : Nat) : Prop × AV :=
 if q5c P t = true then (q12 P t = true /\ off + szT P t <= cs.length, .agg ((cs.drop off).take (szT P t))) else (q12 P t = true /\ off < cs.length, cs.getD off .junk)
theorem qc8 {t : TypeId} {cs : List AV} {us : List Value} {b o off : Nat} (hr : x9 w β nx ow cs us) (hu : ∀ (j : Nat) (u : Value), us[j]? = some u -> w.cell? ⟨b, o + j, none⟩ = some u)
  (hc : (q7q P t cs off).1) : ∃ z, (loadVar t ⟨b, o + off, none⟩).run P w = .ok z w /\ rep w β nx ow (q7q P t cs off).2 z := by
 have hl := q1f hr; unfold q7q at hc ⊢
 by_cases ha : q5c P t = true
 .
  simp only [ha, if_true] at hc ⊢; obtain ⟨ht, hlen⟩ := hc; have h1 : ((us.drop off).take (szT P t)).length = szT P t := by simp; omega
  have h2 := run_loadCells_list (P := P) w ⟨b, o + off, none⟩ ((us.drop off).take (szT P t)) (by
   intro j u hj; rw [Xv] at hj
   split at hj
   .
    rw [X9] at hj; have := hu _ _ hj; unfold Addr.add
    split
    . rename_i h0; subst h0; simpa using this
    . simpa [Yj] using this
   . cases hj)
  rw [h1] at h2; refine ⟨.agg ⟨(us.drop off).take (szT P t)⟩, ?_, ?_⟩
  . unfold loadVar; simp [q9y ht, ha, run_sizeOf ht, h2]
  . simp only [rep]; exact ⟨_, rfl, q64 (q74 hr off) _⟩
 .
  simp only [ha] at hc ⊢; obtain ⟨ht, hlen⟩ := hc; have hx : us[off]? = some (us.getD off undef) := by
   rw [Xq, Xn (by omega)]; rfl
  refine ⟨us.getD off undef, ?_, by simpa using qn8 hr off hlen⟩; unfold loadVar; simp [q9y ht, ha, hu _ _ hx]
end
def z5l (P : Program) (hp : Hp) (t : TypeId) : AV -> Option (Prop × AV)
 | .ptr id off => match q0e hp id with
  | some (.box cs) => some (q7q P t cs off)
  | some (.con K cs) => match K.k with
   | some n => some (n <= off /\ (q7q P t cs (off - n)).1, (q7q P t cs (off - n)).2)
   | none => none
  | _ => none
 | .apt id sz i off => match q0e hp id with
  | some (.arr sz' xs) => some ((sz' = sz /\ i < xs.length) /\ (q7q P t (q30 xs i) off).1, (q7q P t (q30 xs i) off).2)
  | some (.con K cs) => match K.k with
   | some n => some (n = i * sz /\ (q7q P t cs off).1, (q7q P t cs off).2)
   | none => none
  | _ => none
 | .el _ xs i off => some (i < xs.length /\ (q7q P t (q30 xs i) off).1, (q7q P t (q30 xs i) off).2)
 | _ => none
theorem zo1 {w : World} {β : Ghost} {nx : Nat} {A : Nat -> Prop} {hp : Hp} (hhp : HpRel w β nx A hp) {id n b C : Nat} {K : Con} {cs : List AV} (hg : q0e hp id = some (.con K cs)) (hk : K.k = some n) (hb : β id = some (b, C)) :
  ∃ us, x9 w β nx (own β hp A) cs us /\ ∀ (j : Nat) v, us[j]? = some v -> w.cell? ⟨b, n + j, none⟩ = some v := by
 rcases hhp.obj _ (q0g hg) with ⟨b', C', cur, h1, _, h2, h3⟩ | ⟨h1, _⟩
 .
  rw [hb] at h1; simp only [Xa, Xb] at h1; obtain ⟨rfl, rfl⟩ := h1; obtain ⟨hd, tl, T, hl, hcs⟩ := K.cells hk h2; refine ⟨cur, h3, fun j v hj => ?_⟩; have hj' := (Xy.1 hj).1; rw [cell_of_row w b (n + j) ⟨hd ++ cur ++ tl⟩ T (0, 0) hcs]
  show (hd ++ cur ++ tl).toArray[n + j]? = _
  rw [Ye, Yb, Xw (by omega), hl, Yn, Xm hj']; exact hj
 . rw [hb] at h1; cases h1
theorem z6c {P : Program} {w : World} {β : Ghost} {nx : Nat} {A : Nat -> Prop} {hp : Hp} (hhp : HpRel w β nx A hp) {t : TypeId} {a r : AV} {c : Prop} {u : Value}
  (h : z5l P hp t a = some (c, r)) (hc : c) (ha : rep w β nx (own β hp A) a u) : ∃ z, (Instr.loadAt t u).run P w = .ok z w /\ rep w β nx (own β hp A) r z := by
 unfold z5l at h
 split at h
 .
  rename_i id off
  split at h
  .
   rename_i cs hg
   simp only [Xa] at h; simp only [rep] at ha; obtain ⟨hlt, b, C, hb, rfl⟩ := ha; have ho := hhp.obj _ (q0g hg); obtain ⟨b', C', cur, e, h1, h2, h3⟩ := ho; rw [hb] at h1; simp only [Xa, Xb] at h1; obtain ⟨rfl, rfl⟩ := h1; have := qc8 (P := P) (t := t) (b := b) (o := 0) (off := off) h3 (fun j v hj => by
    rw [Xp, cell_of_row w b j cur e (0, 0) h2]; simpa using hj) (by rw [h]; exact hc)
   obtain ⟨z, hz1, hz2⟩ := this; refine ⟨z, ?_, by rw [h] at hz2; exact hz2⟩; simp only [Xp] at hz1; simp [Instr.loadAt, Instr.sureAddr, hz1]
  .
   rename_i K cs hg
   split at h
   .
    rename_i n hk
    simp only [Xa, Xb] at h; obtain ⟨rfl, rfl⟩ := h; obtain ⟨hno, hc⟩ := hc; simp only [rep] at ha; obtain ⟨hlt, b, C, hb, rfl⟩ := ha; have key := zo1 hhp hg hk hb; obtain ⟨cur, h3, hcs⟩ := key; obtain ⟨z, hz1, hz2⟩ := qc8 (P := P) (t := t) (b := b) (o := n) (off := off - n) h3 hcs hc; refine ⟨z, ?_, hz2⟩; rw [show n + (off - n) = off by omega] at hz1; simp [Instr.loadAt, Instr.sureAddr, hz1]
   . cases h
  . cases h
 .
  rename_i id sz i off
  split at h
  .
   rename_i sz' xs hg
   simp only [Xa, Xb] at h; obtain ⟨rfl, rfl⟩ := h; obtain ⟨⟨rfl, hi⟩, hp1⟩ := hc; simp only [rep] at ha; obtain ⟨hlt, b, C, hb, rfl⟩ := ha; have ho := hhp.obj _ (q0g hg); rcases ho with ⟨h1, h2⟩ | ⟨b', C', cur, e, h1, h2, _, _, _, h3⟩
   . simp only at h1; rw [hb] at h1; cases h1
   . simp only at h1; rw [hb] at h1; simp only [Xa, Xb] at h1; obtain ⟨rfl, rfl⟩ := h1; obtain ⟨us, h4, _, h5⟩ := qe8 (qm2 h3 i hi).2; obtain ⟨z, hz1, hz2⟩ := qc8 (P := P) (t := t) (off := off) (zc9 (nx := nx) h4) h5 hp1; refine ⟨z, ?_, hz2⟩; simp only [Xp] at hz1; simp [Instr.loadAt, Instr.sureAddr, hz1]
  .
   rename_i K cs hg
   split at h
   .
    rename_i n hk
    simp only [Xa, Xb] at h; obtain ⟨rfl, rfl⟩ := h; obtain ⟨hno, hc⟩ := hc; simp only [rep] at ha; obtain ⟨hlt, b, C, hb, rfl⟩ := ha; obtain ⟨cur, h3, hcs⟩ := zo1 hhp hg hk hb; obtain ⟨z, hz1, hz2⟩ := qc8 (P := P) (t := t) (b := b) (o := n) (off := off) h3 hcs hc; refine ⟨z, ?_, hz2⟩; rw [hno] at hz1; simp [Instr.loadAt, Instr.sureAddr, hz1]
   . cases h
  . cases h
 .
  rename_i sz xs i off
  simp only [Xa, Xb] at h; obtain ⟨rfl, rfl⟩ := h; obtain ⟨hi, hp1⟩ := hc; simp only [rep] at ha; obtain ⟨b, o, rfl, _, _, h3⟩ := ha; obtain ⟨us, h4, _, h5⟩ := qe8 (qm2 h3 i hi).2; obtain ⟨z, hz1, hz2⟩ := qc8 (P := P) (t := t) (off := off) (zc9 (nx := nx) h4) h5 hp1; refine ⟨z, ?_, hz2⟩; simp [Instr.loadAt, Instr.sureAddr, hz1]
 . cases h
end
section
open Go Go.RowKit
section
variable {P : Program} {w : World} {β : Ghost} {nx : Nat} {ow : Nat -> Prop}
def zp3 (k : Nat) : AV -> Option AV
 | .ptr id off => some (.ptr id (off + k))
 | .apt id sz i off => some (.apt id sz i (off + k))
 | .el sz xs i off => some (.el sz xs i (off + k))
 | _ => none
theorem z9d {k : Nat} {a r : AV} {u : Value} (h : zp3 k a = some r) (ha : rep w β nx ow a u) : ∃ b o, u = .pointer (some ⟨b, o, none⟩) /\ rep w β nx ow r (.pointer (some ⟨b, o + k, none⟩)) := by
 unfold zp3 at h
 split at h
 . simp only [Xa] at h; subst h; simp only [rep] at ha ⊢; obtain ⟨h1, b, C, h2, h3⟩ := ha; exact ⟨b, _, h3, h1, b, C, h2, rfl⟩
 . simp only [Xa] at h; subst h; simp only [rep] at ha ⊢; obtain ⟨h1, b, C, h2, h3⟩ := ha; exact ⟨b, _, h3, h1, b, C, h2, by simp [Yj]⟩
 . simp only [Xa] at h; subst h; simp only [rep] at ha ⊢; obtain ⟨b, o, h2, h3⟩ := ha; exact ⟨b, _, h2, b, o, by simp [Yj], h3⟩
 . cases h
theorem q6u (b o k : Nat) : (⟨b, o, none⟩ : Addr).add k = ⟨b, o + k, none⟩ := by unfold Addr.add; split <;> simp_all
def zh1 (P : Program) (t : TypeId) (f : Nat) (a : AV) : Option (Prop × AV) :=
 match q0v P t f with
 | some (fo, ft) => (zp3 fo a).map fun r => (q12 P ft = true /\ szT P ft ≠ 0, r)
 | none => none
theorem zr9 {t : TypeId} {f : Nat} {a r : AV} {c : Prop} {u : Value} (h : zh1 P t f a = some (c, r)) (hc : c) (ha : rep w β nx ow a u) :
  ∃ z, (Instr.fieldAt t u f).run P w = .ok z w /\ rep w β nx ow r z := by
 unfold zh1 at h
 split at h
 .
  rename_i fo ft hf
  simp only [Xd, Xb] at h; obtain ⟨r', h1, rfl, rfl⟩ := h; obtain ⟨b, o, rfl, h2⟩ := z9d h1 ha; refine ⟨_, ?_, h2⟩; unfold q0v at hf
  split at hf
  .
   rename_i fs hd
   simp only [Xd, Xb] at hf; obtain ⟨fl, hfl, rfl, rfl⟩ := hf; simp [Instr.fieldAt, run_underlying hd, hfl, Instr.sureAddr, fieldPlace, run_sizeOf hc.1, hc.2, q6u]
  . cases hf
 . cases h
def zh0 (P : Program) (t : TypeId) : AV -> AV -> Option (Prop × AV)
 | .sl sz xs, .v (.int _ n) => match sliceT P t with
  | some e => some (q12 P e = true /\ szT P e = sz /\ 0 <= n /\ n < xs.length, .el sz xs n.toNat 0)
  | none => none
 | .osl id sz off len, .v (.int _ n) => match sliceT P t with
  | some e => some (q12 P e = true /\ szT P e = sz /\ 0 <= n /\ n < len, .apt id sz (off + n.toNat) 0)
  | none => none
 | .bsl id off len, .v (.int _ n) => match sliceT P t with
  | some e => some (q12 P e = true /\ szT P e = 1 /\ 0 <= n /\ n < len, .ptr id (off + n.toNat))
  | none => none
 | a, .v (.int _ n) => match qe6 P t with
  | some (m, e) => (zp3 (n.toNat * szT P e) a).map fun r => (q12 P e = true /\ 0 <= n /\ n < m, r)
  | none => none
 | _, _ => none
theorem q0h {t e : TypeId} (h : sliceT P t = some e) : P.underlying t = some (.slice e) := by
 unfold sliceT at h; split at h
 . simp only [Xa] at h; subst h; assumption
 . cases h
theorem z1x {t e : TypeId} {m : Nat} (h : qe6 P t = some (m, e)) : P.underlying t = some (.array m e) := by
 unfold qe6 at h; split at h
 . simp only [Xa, Xb] at h; obtain ⟨rfl, rfl⟩ := h; assumption
 . cases h
theorem qq7 {t : TypeId} {k : IntKind} (h : qj9 P t = some k) : P.underlying t = some (.int k) := by
 unfold qj9 at h; split at h
 . simp only [Xa] at h; subst h; assumption
 . cases h
theorem qt3 {t e : TypeId} (ht : P.underlying t = some (.slice e)) (he : q12 P e = true) (a : Addr) (len cap : Nat) (k : IntKind) (n : Int) (h0 : 0 <= n) (h1 : n < len) :
  (Instr.indexAt t (.slice (some a) len cap) (.int k n)).run P w = .ok (.pointer (some (a.add (n.toNat * szT P e)))) w := by
 simp [Instr.indexAt, run_underlying ht, asIntOf, h0, h1, run_sizeOf he]
theorem z7v {t e : TypeId} {m : Nat} (ht : P.underlying t = some (.array m e)) (he : q12 P e = true) (a : Addr) (k : IntKind) (n : Int) (h0 : 0 <= n) (h1 : n < m) :
  (Instr.indexAt t (.pointer (some a)) (.int k n)).run P w = .ok (.pointer (some (a.add (n.toNat * szT P e)))) w := by
 simp [Instr.indexAt, run_underlying ht, asIntOf, Instr.sureAddr, h0, h1, run_sizeOf he]
theorem zr6 {t : TypeId} {a i r : AV} {c : Prop} {u v : Value} (h : zh0 P t a i = some (c, r)) (hc : c) (ha : rep w β nx ow a u) (hi : rep w β nx ow i v) :
  ∃ z, (Instr.indexAt t u v).run P w = .ok z w /\ rep w β nx ow r z := by
 unfold zh0 at h
 split at h
 .
  rename_i sz xs k n
  split at h
  .
   rename_i e he
   simp only [Xa, Xb] at h; obtain ⟨rfl, rfl⟩ := h; obtain ⟨c1, c2, c3, c4⟩ := hc; simp only [rep] at hi ha ⊢; subst hi; rcases ha with ⟨rfl, _⟩ | ⟨b, o, cap, rfl, h2, h3, h4, h5⟩
   . simp only [List.length_nil, X5] at c4; omega
   . refine ⟨_, qt3 (q0h he) c1 _ _ _ _ _ c3 c4, b, o, ?_, h3, h4, h5⟩; rw [c2, q6u]; simp
  . cases h
 .
  rename_i id sz off len k n
  split at h
  .
   rename_i e he
   simp only [Xa, Xb] at h; obtain ⟨rfl, rfl⟩ := h; obtain ⟨c1, c2, c3, c4⟩ := hc; simp only [rep] at hi ha ⊢; subst hi; obtain ⟨h1, h2⟩ := ha; rcases h2 with ⟨_, _, rfl, _⟩ | ⟨b, C, cap, a, h2, rfl, h3, h4, h5⟩
   . simp only [X5] at c4; omega
   .
    have hcap : a = ⟨b, off * sz, none⟩ := by
     rcases h5 with h5 | h5
     . exact h5
     . omega
    subst hcap; refine ⟨_, qt3 (q0h he) c1 _ _ _ _ _ c3 c4, h1, b, C, h2, ?_⟩; rw [c2, q6u]; simp [Xs]
  . cases h
 .
  rename_i id off len k n
  split at h
  .
   rename_i e he
   simp only [Xa, Xb] at h; obtain ⟨rfl, rfl⟩ := h; obtain ⟨c1, c2, c3, c4⟩ := hc; simp only [rep] at hi ha ⊢; subst hi; obtain ⟨h1, b, C, cap, a, h2, rfl, h3, h4⟩ := ha; rcases h4 with rfl | h4
   . refine ⟨_, qt3 (q0h he) c1 _ _ _ _ _ c3 c4, h1, b, C, h2, ?_⟩; rw [c2, q6u]; simp
   . subst h4; simp only [X5] at c4; omega
  . cases h
 .
  rename_i k n _ _
  split at h
  .
   rename_i m e he
   simp only [Xd, Xb] at h; obtain ⟨r', h1, rfl, rfl⟩ := h; obtain ⟨b, o, rfl, h2⟩ := z9d h1 ha; simp only [rep] at hi; subst hi; exact ⟨_, z7v (z1x he) hc.1 _ _ _ hc.2.1 hc.2.2, by rw [q6u]; exact h2⟩
  . cases h
 . cases h
def zz7 (P : Program) (t : TypeId) : AV -> Option (Prop × AV)
 | .sl _ xs => some ((sliceT P t).isSome = true, .v (.int .i64 xs.length))
 | .osl _ _ _ len => some ((sliceT P t).isSome = true, .v (.int .i64 len))
 | .bsl _ _ len => some ((sliceT P t).isSome = true, .v (.int .i64 len))
 | .v (.slice _ n _) => some ((sliceT P t).isSome = true, .v (.int .i64 n))
 | .v (.string s) => some (P.underlying t = some .string, .v (.int .i64 s.size))
 | _ => none
theorem qj6 {t ty : TypeId} (h : (sliceT P t).isSome = true) (a : Option Addr) (n c : Nat) : (Builtin.len_ #[t] ty #[.slice a n c]).run P w = .ok (.int .i64 n) w := by
 obtain ⟨e, he⟩ := Yk.1 h; simp [Builtin.len_, run_underlying (q0h he), goInt]
theorem zz6 {t ty : TypeId} {a r : AV} {c : Prop} {u : Value} (h : zz7 P t a = some (c, r)) (hc : c) (ha : rep w β nx ow a u) :
  ∃ z, (Builtin.len_ #[t] ty #[u]).run P w = .ok z w /\ rep w β nx ow r z := by
 unfold zz7 at h
 split at h
 .
  simp only [Xa, Xb] at h; obtain ⟨rfl, rfl⟩ := h; simp only [rep] at ha ⊢; rcases ha with ⟨rfl, a, cap, rfl⟩ | ⟨b, o, cap, rfl, _⟩
  . exact ⟨_, qj6 hc _ _ _, rfl⟩
  . exact ⟨_, qj6 hc _ _ _, rfl⟩
 .
  simp only [Xa, Xb] at h; obtain ⟨rfl, rfl⟩ := h; simp only [rep] at ha ⊢; rcases ha.2 with ⟨_, _, rfl, rfl⟩ | ⟨b, C, cap, a, _, rfl, _⟩
  . exact ⟨_, qj6 hc _ _ _, rfl⟩
  . exact ⟨_, qj6 hc _ _ _, rfl⟩
 . simp only [Xa, Xb] at h; obtain ⟨rfl, rfl⟩ := h; simp only [rep] at ha ⊢; obtain ⟨_, b, C, cap, a, _, rfl, _⟩ := ha; exact ⟨_, qj6 hc _ _ _, rfl⟩
 . simp only [Xa, Xb] at h; obtain ⟨rfl, rfl⟩ := h; simp only [rep] at ha ⊢; subst ha; exact ⟨_, qj6 hc _ _ _, rfl⟩
 . simp only [Xa, Xb] at h; obtain ⟨rfl, rfl⟩ := h; simp only [rep] at ha ⊢; subst ha; exact ⟨_, by simp [Builtin.len_, run_underlying hc, goInt], rfl⟩
 . cases h
theorem z8d {t : TypeId} {cs : List AV} {us : List Value} {off : Nat} (hr : x9 w β nx ow cs us) (hc : (q7q P t cs off).1) :
  ∃ z, (part t ⟨us⟩ off).run P w = .ok z w /\ rep w β nx ow (q7q P t cs off).2 z := by
 have hl := q1f hr; unfold q7q at hc ⊢
 by_cases ha : q5c P t = true
 .
  simp only [ha, if_true] at hc ⊢; obtain ⟨ht, hlen⟩ := hc; refine ⟨.agg ⟨(us.drop off).take (szT P t)⟩, ?_, ?_⟩
  .
   unfold part; simp only [Sem.run_bind, q9y ht, ha, Result.andThen_ok, if_true, run_sizeOf ht, Sem.run_pure]
   congr 2
   apply Xr; simp [List.extract_eq_take_drop]
  . simp only [rep]; exact ⟨_, rfl, q64 (q74 hr off) _⟩
 .
  simp only [ha] at hc ⊢; obtain ⟨ht, hlen⟩ := hc; have hx : us[off]? = some (us.getD off undef) := by
   rw [Xq, Xn (by omega)]; rfl
  refine ⟨us.getD off undef, ?_, by simpa using qn8 hr off hlen⟩; unfold part; have ha' : q5c P t = false := by simpa using ha
  have hx' : (⟨us⟩ : Array Value)[off]? = some (us.getD off undef) := by simpa using hx
  simp only [Sem.run_bind, q9y ht, ha', Result.andThen_ok, X4, if_false, hx', Sem.run_pure]
def z8w (P : Program) (t : TypeId) (f : Nat) : AV -> Option (Prop × AV)
 | .agg cs => match q0v P t f with
  | some (fo, ft) => some (q7q P ft cs fo)
  | none => none
 | _ => none
theorem zm9 {t : TypeId} {f : Nat} {a r : AV} {c : Prop} {u : Value} (h : z8w P t f a = some (c, r)) (hc : c) (ha : rep w β nx ow a u) :
  ∃ z, (Instr.field t u f).run P w = .ok z w /\ rep w β nx ow r z := by
 unfold z8w at h
 split at h
 .
  rename_i cs
  split at h
  .
   rename_i fo ft hf
   simp only [Xa] at h; simp only [rep] at ha; obtain ⟨l, rfl, hl⟩ := ha; obtain ⟨z, h1, h2⟩ := z8d (P := P) (t := ft) (off := fo) hl (by rw [h]; exact hc); refine ⟨z, ?_, by rw [h] at h2; exact h2⟩; unfold q0v at hf
   split at hf
   .
    rename_i fs hd
    simp only [Xd, Xb] at hf; obtain ⟨fl, hfl, rfl, rfl⟩ := hf; simp [Instr.field, run_underlying hd, hfl, asAgg, h1]
   . cases hf
  . cases h
 . cases h
def z8q (P : Program) (t : TypeId) : AV -> AV -> Option (Prop × AV)
 | .agg cs, .v (.int _ n) => match qe6 P t with
  | some (m, e) => some (q12 P e = true /\ 0 <= n /\ n < m /\ (q7q P e cs (n.toNat * szT P e)).1, (q7q P e cs (n.toNat * szT P e)).2)
  | none => none
 | .v (.string s), .v (.int _ n) => some (P.underlying t = some .string /\ 0 <= n /\ n < s.size, .v (.int .u8 (s.data.toList.getD n.toNat 0).toNat))
 | _, _ => none
theorem zm2 {t : TypeId} {a i r : AV} {c : Prop} {u v : Value} (h : z8q P t a i = some (c, r)) (hc : c) (ha : rep w β nx ow a u) (hi : rep w β nx ow i v) :
  ∃ z, (Instr.index t u v).run P w = .ok z w /\ rep w β nx ow r z := by
 unfold z8q at h
 split at h
 .
  rename_i cs k n
  split at h
  .
   rename_i m e he
   simp only [Xa, Xb] at h; obtain ⟨rfl, rfl⟩ := h; obtain ⟨c1, c2, c3, c4⟩ := hc; simp only [rep] at ha hi; obtain ⟨l, rfl, hl⟩ := ha; subst hi; obtain ⟨z, h1, h2⟩ := z8d (P := P) hl c4; refine ⟨z, ?_, h2⟩; simp [Instr.index, asIntOf, run_underlying (z1x he), c2, c3, run_sizeOf c1, h1]
  . cases h
 .
  rename_i s k n
  simp only [Xa, Xb] at h; obtain ⟨rfl, rfl⟩ := h; obtain ⟨c1, c2, c3⟩ := hc; simp only [rep] at ha hi ⊢; subst ha hi; have hn : n.toNat < s.size := by omega
  refine ⟨_, ?_, rfl⟩; have hd : n.toNat < s.data.toList.length := by simpa using hn
  have hg : (s.data.toList.getD n.toNat 0) = s[n.toNat] := by
   rw [Xq, Xn hd]; rfl
  rw [hg]; simp [Instr.index, asIntOf, run_underlying c1, c2, hn]
 . cases h
end
end
section
open Go Go.RowKit
section
variable {P : Program} {w : World} {β : Ghost} {nx : Nat} {ow : Nat -> Prop}
theorem qg9 {sz b : Nat} : ∀ {xs : List (List AV)} {o : Nat}, q0j w β ow sz b xs o -> ∀ (k : Nat), q0j w β ow sz b (xs.drop k) (o + k * sz)
 | [], o, h, k => by simp [q0j]
 | r :: rs, o, h, 0 => by simpa using h
 | r :: rs, o, h, k + 1 => by
  simp only [q0j] at h; have := qg9 h.2.2 k; rw [List.drop_succ_cons, show o + (k + 1) * sz = o + sz + k * sz by rw [Xs]; omega]; exact this
theorem q9p {sz b : Nat} : ∀ {xs : List (List AV)} {o : Nat}, q0j w β ow sz b xs o -> ∀ (k : Nat), q0j w β ow sz b (xs.take k) o
 | [], o, h, k => by simp [q0j]
 | r :: rs, o, h, 0 => by simp [q0j]
 | r :: rs, o, h, k + 1 => by
  simp only [q0j] at h; simp only [Yt, q0j]; exact ⟨h.1, h.2.1, q9p h.2.2 k⟩
def q8g : Option AV -> Int -> Option Int
 | none, d => some d
 | some (.v (.int _ n)), _ => some n
 | _, _ => none
theorem qg7 {t e : TypeId} (ht : P.underlying t = some (.slice e)) (he : q12 P e = true) (a : Option Addr) (len cap : Nat) (lo hi : Option AV) (lo' hi' : Option Value)
  (hlo : ∀ x, lo = some x -> ∃ u, lo' = some u /\ rep w β nx ow x u) (hlo0 : lo = none -> lo' = none) (hhi : ∀ x, hi = some x -> ∃ u, hi' = some u /\ rep w β nx ow x u) (hhi0 : hi = none -> hi' = none)
  (l h : Int) (hl : q8g lo 0 = some l) (hh : q8g hi len = some h) (c0 : 0 <= l) (c1 : l <= h) (c2 : h <= len) (c3 : len <= cap) :
  (Instr.sliceAt t (.slice a len cap) lo' hi' none).run P w = .ok (.slice (if cap = l.toNat then a else a.map (·.add (l.toNat * szT P e))) (h.toNat - l.toNat) (cap - l.toNat)) w := by
 have hl' : lo = none /\ lo' = none /\ l = 0 \/ ∃ k, lo' = some (.int k l) := by
  unfold q8g at hl
  split at hl
  . simp only [Xa] at hl; exact .inl ⟨rfl, hlo0 rfl, hl.symm⟩
  . simp only [Xa] at hl; obtain ⟨u, h1, h2⟩ := hlo _ rfl; simp only [rep] at h2; subst hl h2; exact .inr ⟨_, h1⟩
  . cases hl
 have hh' : hi = none /\ hi' = none /\ h = len \/ ∃ k, hi' = some (.int k h) := by
  unfold q8g at hh
  split at hh
  . simp only [Xa] at hh; exact .inl ⟨rfl, hhi0 rfl, hh.symm⟩
  . simp only [Xa] at hh; obtain ⟨u, h1, h2⟩ := hhi _ rfl; simp only [rep] at h2; subst hh h2; exact .inr ⟨_, h1⟩
  . cases hh
 have e0 : (0 : Int) <= h := by omega
 have e1 : h <= (cap : Int) := by omega
 have e2 : (h.toNat : Int) = h := Yi e0; have key : (Instr.sliceBounds true len cap lo' hi' none).run P w = .ok (l.toNat, h.toNat, cap) w := by
  rcases hl' with ⟨_, rfl, rfl⟩ | ⟨k, rfl⟩ <;> rcases hh' with ⟨_, rfl, rfl⟩ | ⟨k', rfl⟩
  . simp [Instr.sliceBounds]
  . simp [Instr.sliceBounds, run_sliceBound w k' h cap _ e0 e1]
  . simp [Instr.sliceBounds, run_sliceBound w k l len _ c0 (by omega)]
  . simp [Instr.sliceBounds, run_sliceBound w k' h cap _ e0 e1, run_sliceBound w k l h.toNat _ c0 (by omega)]
 simp only [Instr.sliceAt, Instr.slice, Sem.run_bind, run_underlying ht, Result.andThen_ok, key, run_sizeOf he, Sem.run_pure]
def z7t (P : Program) (t : TypeId) (lo hi : Option AV) : AV -> Option (Prop × AV)
 | .sl sz xs => match sliceT P t, q8g lo 0, q8g hi xs.length with
  | some e, some l, some h => some (q12 P e = true /\ szT P e = sz /\ 0 <= l /\ l <= h /\ h <= xs.length, .sl sz ((xs.take h.toNat).drop l.toNat))
  | _, _, _ => none
 | .osl id sz off len => match sliceT P t, q8g lo 0, q8g hi len with
  | some e, some l, some h => some (q12 P e = true /\ szT P e = sz /\ 0 <= l /\ l <= h /\ h <= len, .osl id sz (off + l.toNat) (h.toNat - l.toNat))
  | _, _, _ => none
 | .bsl id off len => match sliceT P t, q8g lo 0, q8g hi len with
  | some e, some l, some h => some (q12 P e = true /\ szT P e = 1 /\ 0 <= l /\ l <= h /\ h <= len, .bsl id (off + l.toNat) (h.toNat - l.toNat))
  | _, _, _ => none
 | .ptr id o => match qe6 P t with
  | some (m, e) => match q8g lo 0, q8g hi m with
   | some l, some h => some (q12 P e = true /\ szT P e = 1 /\ 0 <= l /\ l <= h /\ h <= m, .bsl id (o + l.toNat) (h.toNat - l.toNat))
   | _, _ => none
  | none => none
 | .v (.string x) => match q8g lo 0, q8g hi x.data.toList.length with
  | some l, some h => some (P.underlying t = some .string /\ 0 <= l /\ l <= h /\ h <= x.data.toList.length, .v (.string ⟨⟨(x.data.toList.take h.toNat).drop l.toNat⟩⟩))
  | _, _ => none
 | _ => none
theorem zf4 {t : TypeId} (ht : P.underlying t = some .string) (x : ByteArray) (lo hi : Option AV) (lo' hi' : Option Value)
  (hlo : ∀ x, lo = some x -> ∃ u, lo' = some u /\ rep w β nx ow x u) (hlo0 : lo = none -> lo' = none) (hhi : ∀ x, hi = some x -> ∃ u, hi' = some u /\ rep w β nx ow x u) (hhi0 : hi = none -> hi' = none)
  (l h : Int) (hl : q8g lo 0 = some l) (hh : q8g hi x.data.toList.length = some h) (c0 : 0 <= l) (c1 : l <= h) (c2 : h <= x.data.toList.length) :
  (Instr.sliceAt t (.string x) lo' hi' none).run P w = .ok (.string ⟨⟨(x.data.toList.take h.toNat).drop l.toNat⟩⟩) w := by
 have hsz : x.data.toList.length = x.size := rfl; have hl' : lo = none /\ lo' = none /\ l = 0 \/ ∃ k, lo' = some (.int k l) := by
  unfold q8g at hl
  split at hl
  . simp only [Xa] at hl; exact .inl ⟨rfl, hlo0 rfl, hl.symm⟩
  . simp only [Xa] at hl; obtain ⟨u, h1, h2⟩ := hlo _ rfl; simp only [rep] at h2; subst hl h2; exact .inr ⟨_, h1⟩
  . cases hl
 have hh' : hi = none /\ hi' = none /\ h = x.data.toList.length \/ ∃ k, hi' = some (.int k h) := by
  unfold q8g at hh
  split at hh
  . simp only [Xa] at hh; exact .inl ⟨rfl, hhi0 rfl, hh.symm⟩
  . simp only [Xa] at hh; obtain ⟨u, h1, h2⟩ := hhi _ rfl; simp only [rep] at h2; subst hh h2; exact .inr ⟨_, h1⟩
  . cases hh
 have e0 : (0 : Int) <= h := by omega
 have e1 : h <= (x.size : Int) := by omega
 have e2 : (h.toNat : Int) = h := Yi e0; have key : (Instr.sliceBounds false x.size x.size lo' hi' none).run P w = .ok (l.toNat, h.toNat, x.size) w := by
  rcases hl' with ⟨_, rfl, rfl⟩ | ⟨k, rfl⟩ <;> rcases hh' with ⟨_, rfl, rfl⟩ | ⟨k', rfl⟩
  . simp [Instr.sliceBounds]
  . simp [Instr.sliceBounds, run_sliceBound w k' h x.size _ e0 e1]
  . simp [Instr.sliceBounds, run_sliceBound w k l x.size _ c0 (by omega)]
  . simp [Instr.sliceBounds, run_sliceBound w k' h x.size _ e0 e1, run_sliceBound w k l h.toNat _ c0 (by omega)]
 have hex : x.extract l.toNat h.toNat = ⟨⟨(x.data.toList.take h.toNat).drop l.toNat⟩⟩ := by
  apply ByteArray.ext; apply Xr; rw [ByteArray.data_extract, Array.toList_extract]; simp [List.drop_take]
 simp only [Instr.sliceAt, Instr.slice, Sem.run_bind, run_underlying ht, Result.andThen_ok, key, Sem.run_pure, hex, Option.isSome_none, X4, if_false]
theorem zf5 {t e : TypeId} {m : Nat} (ht : P.underlying t = some (.array m e)) (he : q12 P e = true) (a : Addr) (lo hi : Option AV) (lo' hi' : Option Value)
  (hlo : ∀ x, lo = some x -> ∃ u, lo' = some u /\ rep w β nx ow x u) (hlo0 : lo = none -> lo' = none) (hhi : ∀ x, hi = some x -> ∃ u, hi' = some u /\ rep w β nx ow x u) (hhi0 : hi = none -> hi' = none)
  (l h : Int) (hl : q8g lo 0 = some l) (hh : q8g hi m = some h) (c0 : 0 <= l) (c1 : l <= h) (c2 : h <= m) :
  (Instr.sliceAt t (.pointer (some a)) lo' hi' none).run P w = .ok (.slice (some (if m = l.toNat then a else a.add (l.toNat * szT P e))) (h.toNat - l.toNat) (m - l.toNat)) w := by
 have hl' : lo = none /\ lo' = none /\ l = 0 \/ ∃ k, lo' = some (.int k l) := by
  unfold q8g at hl
  split at hl
  . simp only [Xa] at hl; exact .inl ⟨rfl, hlo0 rfl, hl.symm⟩
  . simp only [Xa] at hl; obtain ⟨u, h1, h2⟩ := hlo _ rfl; simp only [rep] at h2; subst hl h2; exact .inr ⟨_, h1⟩
  . cases hl
 have hh' : hi = none /\ hi' = none /\ h = m \/ ∃ k, hi' = some (.int k h) := by
  unfold q8g at hh
  split at hh
  . simp only [Xa] at hh; exact .inl ⟨rfl, hhi0 rfl, hh.symm⟩
  . simp only [Xa] at hh; obtain ⟨u, h1, h2⟩ := hhi _ rfl; simp only [rep] at h2; subst hh h2; exact .inr ⟨_, h1⟩
  . cases hh
 have e0 : (0 : Int) <= h := by omega
 have e1 : h <= (m : Int) := by omega
 have e2 : (h.toNat : Int) = h := Yi e0; have key : (Instr.sliceBounds false m m lo' hi' none).run P w = .ok (l.toNat, h.toNat, m) w := by
  rcases hl' with ⟨_, rfl, rfl⟩ | ⟨k, rfl⟩ <;> rcases hh' with ⟨_, rfl, rfl⟩ | ⟨k', rfl⟩
  . simp [Instr.sliceBounds]
  . simp [Instr.sliceBounds, run_sliceBound w k' h m _ e0 e1]
  . simp [Instr.sliceBounds, run_sliceBound w k l m _ c0 (by omega)]
  . simp [Instr.sliceBounds, run_sliceBound w k' h m _ e0 e1, run_sliceBound w k l h.toNat _ c0 (by omega)]
 simp only [Instr.sliceAt, Sem.run_bind, run_underlying ht, Result.andThen_ok, Instr.sureAddr, key, run_sizeOf he, Sem.run_pure]
theorem zj0 {t : TypeId} {lo hi : Option AV} {lo' hi' : Option Value} {a r : AV} {c : Prop} {u : Value} (h : z7t P t lo hi a = some (c, r)) (hc : c) (ha : rep w β nx ow a u)
  (hlo : ∀ x, lo = some x -> ∃ u, lo' = some u /\ rep w β nx ow x u) (hlo0 : lo = none -> lo' = none) (hhi : ∀ x, hi = some x -> ∃ u, hi' = some u /\ rep w β nx ow x u) (hhi0 : hi = none -> hi' = none) :
  ∃ z, (Instr.sliceAt t u lo' hi' none).run P w = .ok z w /\ rep w β nx ow r z := by
 unfold z7t at h
 split at h
 .
  rename_i sz xs
  split at h
  .
   rename_i e l hh he hl hh'
   simp only [Xa, Xb] at h; obtain ⟨rfl, rfl⟩ := h; obtain ⟨c1, c2, c3, c4, c5⟩ := hc; simp only [rep] at ha ⊢; rcases ha with ⟨rfl, a, cap, rfl⟩ | ⟨b, o, cap, rfl, h2, h3, h4, h5⟩
   .
    have h0 : hh.toNat - l.toNat = 0 := by simp only [List.length_nil, X5] at c5; omega
    refine ⟨_, qg7 (q0h he) c1 a 0 cap lo hi lo' hi' hlo hlo0 hhi hhi0 l hh hl hh' c3 c4 c5 (Yx _), .inl ⟨by simp, if cap = l.toNat then a else a.map (·.add (l.toNat * szT P e)), cap - l.toNat, ?_⟩⟩; rw [h0]
   .
    refine ⟨_, qg7 (q0h he) c1 _ xs.length cap lo hi lo' hi' hlo hlo0 hhi hhi0 l hh hl hh' c3 c4 c5 h2, ?_⟩; have hlen : ((xs.take hh.toNat).drop l.toNat).length = hh.toNat - l.toNat := by
     rw [Yl, X2]; omega
    by_cases hz : (xs.take hh.toNat).drop l.toNat = []
    . refine .inl ⟨hz, ?_⟩; rw [<- hlen, hz]; exact ⟨_, _, rfl⟩
    .
     have hpos : 0 < hh.toNat - l.toNat := by
      rw [<- hlen]; exact List.length_pos_iff.2 hz
     refine .inr ⟨b, o + l.toNat * sz, cap - l.toNat, ?_, by rw [hlen]; omega, h3, h4, qg9 (q9p h5 _) _⟩; rw [if_neg (by omega), hlen, c2]; simp [q6u]
  . cases h
 .
  rename_i id sz off len
  split at h
  .
   rename_i e l hh he hl hh'
   simp only [Xa, Xb] at h; obtain ⟨rfl, rfl⟩ := h; obtain ⟨c1, c2, c3, c4, c5⟩ := hc; simp only [rep] at ha ⊢; obtain ⟨h1, ha⟩ := ha; rcases ha with ⟨h2, rfl, rfl, rfl⟩ | ⟨b, C, cap, a, h2, rfl, h3, h4, h5⟩
   .
    have e1 : hh = 0 := by simp only [X5] at c5; omega
    have e2 : l = 0 := by omega
    subst e1 e2; exact ⟨_, qg7 (q0h he) c1 none 0 0 lo hi lo' hi' hlo hlo0 hhi hhi0 0 0 hl hh' c3 c4 c5 (Yx _), h1, .inl ⟨h2, by simp, by simp, by simp⟩⟩
   .
    refine ⟨_, qg7 (q0h he) c1 _ len cap lo hi lo' hi' hlo hlo0 hhi hhi0 l hh hl hh' c3 c4 c5 h3, h1, .inr ⟨b, C, cap - l.toNat, if cap = l.toNat then a else a.add (l.toNat * szT P e), h2, ?_, by omega, by omega, ?_⟩⟩
    . split <;> simp
    .
     by_cases hcl : cap = l.toNat /\ off + l.toNat ≠ 0
     . exact .inr (by omega)
     .
      left
      have hcl' : cap = l.toNat -> l.toNat = 0 /\ off = 0 /\ a = ⟨b, off * sz, none⟩ := fun h0 => by
       have h1 : l.toNat = 0 /\ off = 0 := by omega
       refine ⟨h1.1, h1.2, ?_⟩; rcases h5 with h5 | h5
       . exact h5
       . exact absurd h1.2 h5.2
      split
      .
       rename_i h0
       obtain ⟨e1, e2, e3⟩ := hcl' h0; rw [e3, e1]; simp
      .
       rcases h5 with rfl | h5
       . rw [q6u, c2]; simp [Xs]
       . omega
  . cases h
 .
  rename_i id off len
  split at h
  .
   rename_i e l hh he hl hh'
   simp only [Xa, Xb] at h; obtain ⟨rfl, rfl⟩ := h; obtain ⟨c1, c2, c3, c4, c5⟩ := hc; simp only [rep] at ha ⊢; obtain ⟨h1, b, C, cap, a, h2, rfl, h3, h5⟩ := ha; refine ⟨_, qg7 (q0h he) c1 _ len cap lo hi lo' hi' hlo hlo0 hhi hhi0 l hh hl hh' c3 c4 c5 h3, h1, b, C, cap - l.toNat, if cap = l.toNat then a else a.add (l.toNat * szT P e), h2, ?_, by omega, ?_⟩
   . split <;> simp
   .
    by_cases hz : hh.toNat - l.toNat = 0
    . exact .inr hz
    .
     left
     rw [if_neg (by omega)]; rcases h5 with rfl | h5
     . rw [q6u, c2]; simp
     . omega
  . cases h
 .
  rename_i id o
  split at h
  .
   rename_i m e he
   split at h
   .
    rename_i l hh hl hh'
    simp only [Xa, Xb] at h; obtain ⟨rfl, rfl⟩ := h; obtain ⟨c1, c2, c3, c4, c5⟩ := hc; simp only [rep] at ha ⊢; obtain ⟨h1, b, C, h2, rfl⟩ := ha; refine ⟨_, zf5 (z1x he) c1 _ lo hi lo' hi' hlo hlo0 hhi hhi0 l hh hl hh' c3 c4 c5, h1, b, C, _, _, h2, rfl, by omega, ?_⟩
    by_cases hm : m = l.toNat
    . exact .inr (by omega)
    . left; rw [if_neg hm, c2, q6u]; simp
   . cases h
  . cases h
 .
  rename_i x
  split at h
  .
   rename_i l hh hl hh'
   simp only [Xa, Xb] at h; obtain ⟨rfl, rfl⟩ := h; obtain ⟨c1, c2, c3, c4⟩ := hc; simp only [rep] at ha ⊢; subst ha; exact ⟨_, zf4 c1 x lo hi lo' hi' hlo hlo0 hhi hhi0 l hh hl hh' c2 c3 c4, rfl⟩
  . cases h
 . cases h
def z3j (i : Nat) : AV -> Option (Prop × AV)
 | .tup xs => some (i < xs.length, xs.getD i .junk)
 | _ => none
theorem za4 {i : Nat} {a r : AV} {c : Prop} {u : Value} (h : z3j i a = some (c, r)) (hc : c) (ha : rep w β nx ow a u) :
  ∃ z, (Instr.extract u i).run P w = .ok z w /\ rep w β nx ow r z := by
 unfold z3j at h
 split at h
 .
  simp only [Xa, Xb] at h; obtain ⟨rfl, rfl⟩ := h; simp only [rep] at ha; obtain ⟨l, rfl, hl⟩ := ha; have hlen := q1f hl; refine ⟨l.getD i undef, ?_, qn8 hl i hc⟩; have hx : (⟨l⟩ : Array Value)[i]? = some (l.getD i undef) := by
   rw [Xq]; simp [show i < l.length by omega]
  simp [Instr.extract, hx]
 . cases h
def z00 : List AV -> UInt8
 | [.v (.int _ n)] => UInt8.ofNat n.toNat
 | _ => 0
def z2o : List AV -> Bool
 | [.v (.int .u8 _)] => true
 | _ => false
def z2e : List AV -> Int
 | [.v (.int _ n)] => n
 | _ => 0
def j9s (n : Int) : List UInt8 := (Utf8.encode n).data.toList
def z98 (P : Program) (src dst : TypeId) : AV -> Option (Prop × AV)
 | .v (.int _ n) => match qj9 P dst with
  | some k => some (q12 P src = true, .v (.int k (k.wrap n)))
  | none => match P.underlying dst with
   | some .string => some (q12 P src = true, .v (.string ⟨⟨j9s n⟩⟩))
   | _ => none
 | .sl sz xs => match P.underlying dst, sliceT P src with
  | some .string, some e => some (sz = 1 /\ qj9 P e = some .u8 /\ xs.all z2o = true, .v (.string ⟨⟨xs.map z00⟩⟩))
  | _, _ => none
 | _ => none
theorem z3w {b : Nat} : ∀ {xs : List (List AV)} {o : Nat}, xs.all z2o = true -> q0j w β ow 1 b xs o -> ∀ i, i < xs.length -> w.cell? ⟨b, o + i, none⟩ = some (.int .u8 ((xs.map z2e).getD i 0))
 | [], _, _, _, i, hi => by simp at hi
 | r :: rs, o, hb, h, i, hi => by
  simp only [Yd, X1] at hb; simp only [q0j] at h
  cases i with
  | zero =>
   have h1 := hb.1; unfold z2o at h1
   split at h1
   .
    rename_i n
    obtain ⟨u, hu, _, hr⟩ := (by simpa only [q3s] using h.2.1 : (∃ u, w.cell? ⟨b, o, none⟩ = some u /\ u.oneCell' = true /\ rep w β 0 ow (.v (.int .u8 n)) u) /\ True).1; simp only [rep] at hr; subst hr
    simpa [z2e] using hu
   . cases h1
  | succ i =>
   have := z3w hb.2 h.2.2 i (by simpa using hi); rw [show o + (i + 1) = o + 1 + i by omega]
   simpa using this
theorem zs1 {src dst : TypeId} {a r : AV} {c : Prop} {u : Value} (h : z98 P src dst a = some (c, r)) (hc : c) (ha : rep w β nx ow a u) :
  ∃ z, (convert src dst u).run P w = .ok z w /\ rep w β nx ow r z := by
 unfold z98 at h
 split at h
 .
  split at h
  .
   rename_i k hk
   simp only [Xa, Xb] at h; obtain ⟨rfl, rfl⟩ := h; simp only [rep] at ha ⊢; subst ha; obtain ⟨i, d, hi, hd, hs⟩ := qp3 hc; exact ⟨_, by simp [convert, run_underlying hd, run_underlying (qq7 hk), Conv.intToInt], rfl⟩
  .
   split at h
   .
    rename_i hs
    simp only [Xa, Xb] at h; obtain ⟨rfl, rfl⟩ := h; simp only [rep] at ha ⊢; subst ha; obtain ⟨i, d, hi, hd, _⟩ := qp3 hc; exact ⟨_, by simp [convert, run_underlying hd, run_underlying hs, Conv.intToString]; rfl, rfl⟩
   . cases h
 .
  rename_i sz xs
  split at h
  .
   rename_i e hd he
   simp only [Xa, Xb] at h; obtain ⟨rfl, rfl⟩ := h; obtain ⟨rfl, hk, hb⟩ := hc; simp only [rep] at ha ⊢; have hrb : ∀ r : List AV, UInt8.ofNat (z2e r).toNat = z00 r := fun r => by unfold z2e z00; split <;> rfl
   rcases ha with ⟨rfl, a, cap, rfl⟩ | ⟨b, o, cap, rfl, _, _, _, h5⟩
   .
    refine ⟨_, ?_, rfl⟩
    cases a with
    | none => rw [run_convert_bytes_nil w src e (q0h he) (qq7 hk) 0 cap dst hd]; rfl
    | some a =>
     rw [run_convert_bytes_string w src dst e _ 0 cap (q0h he) (qq7 hk) hd, run_bytesToString w a 0 cap [] (by simpa using run_loadCells_list (P := P) (w := w) a [] (by simp))]; rfl
   . refine ⟨_, run_convert_bytes_arg w src e (q0h he) (qq7 hk) b o xs.length cap (xs.map z2e) (by simp) (z3w hb h5) dst hd, ?_⟩; unfold strOfNums; simp only [List.map_map]; rw [show ((fun n : Int => UInt8.ofNat n.toNat) ∘ z2e) = z00 from funext hrb]
  . cases h
 . cases h
def unR (op : UnOp) : AV -> Option (Prop × AV)
 | .v (.int k n) => match op with
  | .neg => some (True, .v (.int k (k.wrap (0 - n))))
  | .xor => some (True, .v (.int k (j37 k (if k.signed then -1 else k.max) n)))
  | _ => none
 | .v (.bool b) => match op with
  | .not => some (True, .v (.bool !b))
  | _ => none
 | _ => none
theorem j17 {op : UnOp} {a r : AV} {c : Prop} {u : Value} (h : unR op a = some (c, r)) (ha : rep w β nx ow a u) :
  ∃ z, (Op.unary op u).run P w = .ok z w /\ rep w β nx ow r z := by
 unfold unR at h
 split at h
 .
  simp only [rep] at ha; subst ha
  cases op <;> simp only [Xa, Xb, reduceCtorEq] at h <;> obtain ⟨rfl, rfl⟩ := h
  . exact ⟨_, rfl, by simp only [rep]⟩
  . exact ⟨_, rfl, by simp only [rep]; rfl⟩
 .
  simp only [rep] at ha; subst ha
  cases op <;> simp only [Xa, Xb, reduceCtorEq] at h <;> obtain ⟨rfl, rfl⟩ := h
  exact ⟨_, rfl, by simp only [rep]⟩
 . cases h
def zz1 : AV -> AV -> Option (Prop × AV)
 | .v (.int k x), .v (.int _ y) => some (True, .v (.int k (min x y)))
 | _, _ => none
def zz3 : AV -> AV -> Option (Prop × AV)
 | .v (.int k x), .v (.int _ y) => some (True, .v (.int k (max x y)))
 | _, _ => none
theorem zz0 {ts : Array TypeId} {t : TypeId} {a b r : AV} {c : Prop} {u v : Value} (h : zz1 a b = some (c, r)) (ha : rep w β nx ow a u) (hb : rep w β nx ow b v) :
  ∃ z, (Builtin.min_ ts t #[u, v]).run P w = .ok z w /\ rep w β nx ow r z := by
 unfold zz1 at h
 split at h
 .
  simp only [Xa, Xb] at h; obtain ⟨rfl, rfl⟩ := h; simp only [rep] at ha hb ⊢; subst ha hb; refine ⟨_, run_min_int2 w _ _ _ _ _ _, ?_⟩
  congr 1
  split <;> omega
 . cases h
theorem zz2 {ts : Array TypeId} {t : TypeId} {a b r : AV} {c : Prop} {u v : Value} (h : zz3 a b = some (c, r)) (ha : rep w β nx ow a u) (hb : rep w β nx ow b v) :
  ∃ z, (Builtin.max_ ts t #[u, v]).run P w = .ok z w /\ rep w β nx ow r z := by
 unfold zz3 at h
 split at h
 .
  simp only [Xa, Xb] at h; obtain ⟨rfl, rfl⟩ := h; simp only [rep] at ha hb ⊢; subst ha hb; refine ⟨_, run_max_int2 w _ _ _ _ _ _, ?_⟩
  congr 1
  split <;> omega
 . cases h
def j00 : AV -> Bool | .ptr .. | .apt .. | .el .. | .clo .. => true | _ => false
def zg5 (c a b : AV) : Option (Prop × AV) := match c.st with
 | .v (.bool cb) => match a.st, b.st with
  | .v (.bool x), .v (.bool y) => some (c.need /\ (cb = true -> a.need) /\ (cb = false -> b.need), .v (.bool ((cb && x) || (!cb && y))))
  | .v (.bool x), _ => some (c.need /\ cb = true /\ a.need, .v (.bool x))
  | _, .v (.bool y) => some (c.need /\ cb = false /\ b.need, .v (.bool y))
  | _, _ => none
 | _ => none
end
end
section
open Go Go.RowKit
def n1 (a : AV) (r : Option (Prop × AV)) : Option (Prop × AV) := r.map fun p => (a.need /\ p.1, p.2)
def needs : List AV -> Prop | [] => True | a :: r => a.need /\ needs r
def oneed : Option AV -> Prop | none => True | some a => a.need
def z5m : List AV -> Option (List Value)
 | [] => some []
 | .v x :: r => (z5m r).map (x :: ·)
 | _ => none
def z0j : AV -> Option Value
 | .v x => some x
 | .agg cs => (z5m cs).map fun l => .agg ⟨l⟩
 | _ => none
def z8n (P : Program) (hp : Hp) (t : TypeId) (m k : AV) : Option (Prop × AV) := match m, z0j k, P.underlying t with
 | .mp id, some kv, some (.map kt e) => match q0e hp id with
  | some (.con K ex) => match K.mpk with
   | some (ok, ks, some i) => some (Go.Maps.Keyed P kt /\ (∀ v, ok v -> ∃ l, keyOf P kt v = some l) /\ ks[i]? = some kv, ex.headD .junk)
   | some (ok, ks, none) => match (P.info? e).bind (·.zero) with
    | some z => some (Go.Maps.Keyed P kt /\ (∀ v, ok v -> ∃ l, keyOf P kt v = some l) /\ (∃ l, keyOf P kt kv = some l) /\ kv ∉ ks, .v z)
    | none => none
   | none => none
  | _ => none
 | _, _, _ => none
def fop (P : Program) (hp : Hp) (ev : Operand -> AV) : Op -> Option (Prop × AV)
 | .move x => some (True, ev x)
 | .assign x => some (True, ev x)
 | .pick c a b => zg5 (ev c) (ev a) (ev b)
 | .load t x => n1 (ev x) (z5l P hp t (ev x).st)
 | .lookup t m k false => n1 (ev m) (n1 (ev k) (z8n P hp t (ev m).st (ev k).st))
 | .nilCheck x => if j00 (ev x).st = true then some ((ev x).need, (ev x).st) else none
 | .binOp op _ x y _ => n1 (ev x) (n1 (ev y) (j0l op (ev x).st (ev y).st))
 | .unOp op _ x => n1 (ev x) (unR op (ev x).st)
 | .convert s d x => n1 (ev x) (z98 P s d (ev x).st)
 | .slice t x lo hi none => n1 (ev x) ((z7t P t (lo.map fun x => (ev x).st) (hi.map fun x => (ev x).st) (ev x).st).map fun p => ((oneed (lo.map ev) /\ oneed (hi.map ev)) /\ p.1, p.2))
 | .fieldAddr t x f => n1 (ev x) (zh1 P t f (ev x).st)
 | .field t x f => n1 (ev x) (z8w P t f (ev x).st)
 | .indexAddr t x i => n1 (ev x) (n1 (ev i) (zh0 P t (ev x).st (ev i).st))
 | .index t x i => n1 (ev x) (n1 (ev i) (z8q P t (ev x).st (ev i).st))
 | .extract x i => n1 (ev x) (z3j i (ev x).st)
 | .makeFunc (.func f) first caps => if first.toList.length = 0 then some (needs (caps.toList.map ev), .clo f (caps.toList.map fun x => (ev x).st)) else none
 | .call c => match c.callee, c.args.toList, c.argTypes.toList with
  | .builtin .len, [x], [t] => n1 (ev x) (zz7 P t (ev x).st)
  | .builtin .min, [x, y], _ => n1 (ev x) (n1 (ev y) (zz1 (ev x).st (ev y).st))
  | .builtin .max, [x, y], _ => n1 (ev x) (n1 (ev y) (zz3 (ev x).st (ev y).st))
  | _, _, _ => none
 | _ => none
theorem q3w {a : AV} {r : Option (Prop × AV)} {c : Prop} {x : AV} (h : n1 a r = some (c, x)) : ∃ c', r = some (c', x) /\ c = (a.need /\ c') := by
 simp only [n1, Xd, Xb] at h; obtain ⟨⟨c', x'⟩, h1, h2, h3⟩ := h; exact ⟨c', by rw [h1]; simp at h3 ⊢; exact h3, h2.symm⟩
section
variable {P : Program} {w : World} {β : Ghost} {nx : Nat} {A : Nat -> Prop} {hp : Hp} {ev : Operand -> AV} {ρ : Operand -> Value}
theorem z2v {ow : Nat -> Prop} (hev : ∀ x, rep w β nx ow (ev x) (ρ x)) : ∀ (xs : List Operand), needs (xs.map ev) -> x9 w β nx ow (xs.map fun x => (ev x).st) (xs.map ρ)
 | [], _ => by simp [x9]
 | x :: xs, h => by
  simp only [Xi, needs] at h; simp only [Xi, x9]; exact ⟨q1b (hev x) h.1, z2v hev xs h.2⟩
theorem zq8 {ow : Nat -> Prop} {c a b r : AV} {cd : Prop} {uc ua ub : Value} (h : zg5 c a b = some (cd, r)) (hc : cd) (h1 : rep w β nx ow c uc) (h2 : rep w β nx ow a ua) (h3 : rep w β nx ow b ub) :
  ∃ z, (do pure (.value (if <- asBool uc then ua else ub)) : Sem Next).run P w = .ok (.value z) w /\ rep w β nx ow r z := by
 unfold zg5 at h
 split at h
 .
  rename_i cb e1
  split at h
  .
   rename_i x y e2 e3
   simp only [Xa, Xb] at h; obtain ⟨rfl, rfl⟩ := h; obtain ⟨n1, n2, n3⟩ := hc; have := q1b h1 n1; rw [e1] at this; simp only [rep] at this ⊢; subst this
   cases cb
   . have := q1b h3 (n3 rfl); rw [e3] at this; simp only [rep] at this; subst this; exact ⟨.bool y, rfl, by simp⟩
   . have := q1b h2 (n2 rfl); rw [e2] at this; simp only [rep] at this; subst this; exact ⟨.bool x, rfl, by simp⟩
  .
   rename_i x e2 _
   simp only [Xa, Xb] at h; obtain ⟨rfl, rfl⟩ := h; obtain ⟨n1, n2, n3⟩ := hc; subst n2; have := q1b h1 n1; rw [e1] at this; simp only [rep] at this ⊢; subst this; have := q1b h2 n3; rw [e2] at this; simp only [rep] at this; subst this; exact ⟨.bool x, rfl, by simp⟩
  .
   rename_i y e2 _
   simp only [Xa, Xb] at h; obtain ⟨rfl, rfl⟩ := h; obtain ⟨n1, n2, n3⟩ := hc; subst n2; have := q1b h1 n1; rw [e1] at this; simp only [rep] at this ⊢; subst this; have := q1b h3 n3; rw [e2] at this; simp only [rep] at this; subst this; exact ⟨.bool y, rfl, by simp⟩
  . cases h
 . cases h
theorem z6d {ow : Nat -> Prop} : ∀ {cs : List AV} {vs us : List Value}, z5m cs = some vs -> x9 w β nx ow cs us -> us = vs
 | [], vs, [], h, _ => by simp only [z5m, Xa] at h; exact h
 | [], _, _ :: _, _, hr => by simp only [x9] at hr
 | c :: cs, vs, [], h, hr => by simp only [x9] at hr
 | c :: cs, vs, u :: us, h, hr => by
  simp only [x9] at hr
  cases c <;> simp only [z5m, reduceCtorEq, Xd] at h
  obtain ⟨l, h1, rfl⟩ := h; have h2 := hr.1; simp only [rep] at h2; rw [h2, z6d h1 hr.2]
theorem qz2 {ow : Nat -> Prop} {k : AV} {kv u : Value} (h : z0j k = some kv) (hr : rep w β nx ow k u) : u = kv := by
 cases k <;> simp only [z0j, reduceCtorEq, Xa, Xd] at h
 . subst h; simpa only [rep] using hr
 . obtain ⟨l, h1, rfl⟩ := h; simp only [rep] at hr; obtain ⟨l', rfl, h2⟩ := hr; rw [z6d h1 h2]
theorem zr3 (hhp : HpRel w β nx A hp) {t : TypeId} {m k r : AV} {c : Prop} {um uk : Value} (h : z8n P hp t m k = some (c, r)) (hc : c) (hm : rep w β nx (own β hp A) m um) (hk : rep w β nx (own β hp A) k uk) :
  ∃ z, (Instr.lookup t um uk false).run P w = .ok z w /\ rep w β nx (own β hp A) r z := by
 unfold z8n at h
 split at h
 rotate_left
 . cases h
 rename_i m' k' id kv kt e hkv ht
 have hu := qz2 hkv hk; subst hu; simp only [rep] at hm; obtain ⟨_, b, C', hb, rfl⟩ := hm
 split at h
 rotate_left
 . cases h
 rename_i K ex hg
 have hob := hhp.obj _ (q0g hg); simp only [q5f] at hob; have key : ∀ {ok ks foc}, K.mpk = some (ok, ks, foc) -> Go.Maps.Keyed P kt -> (∀ v, ok v -> ∃ l, keyOf P kt v = some l) -> (∃ l, keyOf P kt uk = some l) ->
   ∃ us es clock, j66 w b ok ks foc us /\ x9 w β nx (own β hp A) ex us /\ w.heap[b]? = some (.map es clock) /\ es.toList.map (·.key) = ks /\ (∀ i, foc = some i -> ∃ u, us = [u] /\ (es.toList[i]?).map (·.val) = some u) /\
   (((Instr.findKey kt uk es.toList).run P w = .ok none w /\ ∀ e ∈ es.toList, e.key ≠ uk) \/ ∃ j e, (Instr.findKey kt uk es.toList).run P w = .ok (some (j, e.val)) w /\ es.toList[j]? = some e /\ e.key = uk) := by
  intro ok ks foc hmk hK hok hku; rcases hob with ⟨b', C2, us, h1, _, h2, h3⟩ | ⟨h1, _⟩
  rotate_left
  . rw [hb] at h1; cases h1
  rw [hb] at h1; simp only [Xa, Xb] at h1; obtain ⟨rfl, rfl⟩ := h1; have hin := K.mpl hmk h2; obtain ⟨es, clock, q1, q2, q3, q4, q5⟩ := hin; obtain ⟨lx, hlx⟩ := hku; refine ⟨us, es, clock, ⟨es, clock, q1, q2, q3, q4, q5⟩, h3, q1, q2, q5, hK.find w hlx es.toList fun e he => hok _ (q4 _ ?_)⟩; rw [<- q2]; exact Xk he
 have run1 : Go.Maps.Keyed P kt -> ∀ {es : Array MapEntry} {clock : Nat} {v : Value}, w.heap[b]? = some (.map es clock) -> (∃ l, keyOf P kt uk = some l) -> ∀ {j : Nat}, (Instr.findKey kt uk es.toList).run P w = .ok (some (j, v)) w -> (Instr.lookup t (.map (some b)) uk false).run P w = .ok v w := fun hK {es clock v} q1 ⟨l, hl⟩ {j} h1 => by
  simp [Instr.lookup, run_underlying ht, MapKept.run_getObj_map q1, hK.check w _ hl, h1, Result.andThen]
 split at h
 .
  rename_i ok ks i hmk
  simp only [Xa, Xb] at h; obtain ⟨rfl, rfl⟩ := h; obtain ⟨hK, hok, hki⟩ := hc; have hob2 := hob; have hku : ∃ l, keyOf P kt uk = some l := by
   rcases hob2 with ⟨b', C2, us, h1, _, h2, _⟩ | ⟨h1, _⟩
   rotate_left
   . rw [hb] at h1; cases h1
   obtain ⟨es, clock, q1, q2, q3, q4, q5⟩ := K.mpl hmk h2; exact hok _ (q4 _ (X6 hki))
  obtain ⟨us, es, clock, hin, hex, q1, q2, q5, hf⟩ := key hmk hK hok hku; obtain ⟨u, hu1, hu2⟩ := q5 i rfl; subst hu1; obtain ⟨ei, hei, hev⟩ := Xd.1 hu2; have hkey : ei.key = uk := by
   rw [<- q2, Yc, hei] at hki
   simpa using hki
  obtain ⟨_, _, r1, r2, r3, _, _⟩ := hin; rcases hf with ⟨_, h2⟩ | ⟨j, e0, h1, h2, h3⟩
  . exact absurd hkey (h2 ei (X6 hei))
  .
   have hji : j = i := by
    have hnd : (es.toList.map (·.key)).Nodup := by rw [q2]; exact r3
    have e1 : (es.toList.map (·.key))[j]? = some uk := by rw [Yc, h2]; simp [h3]
    have e2 : (es.toList.map (·.key))[i]? = some uk := by rw [Yc, hei]; simp [hkey]
    exact (List.getElem?_inj (Xy.1 e1).1 hnd).1 (e1.trans e2.symm)
   subst hji; rw [hei] at h2
   cases h2
   refine ⟨_, run1 hK q1 hku h1, ?_⟩; rw [hev]
   cases ex with
   | nil => simp only [x9] at hex
   | cons x ex => simp only [x9] at hex; exact hex.1
 .
  rename_i ok ks hmk
  split at h
  rotate_left
  . cases h
  rename_i z hz
  simp only [Xa, Xb] at h; obtain ⟨rfl, rfl⟩ := h; obtain ⟨hK, hok, hku, hni⟩ := hc; obtain ⟨us, es, clock, hin, hex, q1, q2, q5, hf⟩ := key hmk hK hok hku; obtain ⟨l, hl⟩ := hku; rcases hf with ⟨h1, _⟩ | ⟨j, e0, h1, h2, h3⟩
  .
   obtain ⟨i, hi, hz⟩ := Xt.1 hz; have hzr : (zeroValue e).run P w = .ok z w := by simp [zeroValue, typeInfo, hi, hz]
   exact ⟨z, by simp [Instr.lookup, run_underlying ht, MapKept.run_getObj_map q1, hK.check w _ hl, h1, hzr, Result.andThen], by simp only [rep]⟩
  . refine absurd ?_ hni; rw [<- q2, <- h3]; exact Xk (X6 h2)
 . cases h
theorem ze3 (hhp : HpRel w β nx A hp) (hev : ∀ x, rep w β nx (own β hp A) (ev x) (ρ x)) {o : Oper} {c : Prop} {r : AV} (h : fop P hp ev o.op = some (c, r)) (hc : c) :
  ∃ z, (execOp ρ o).run P w = .ok (.value z) w /\ rep w β nx (own β hp A) r z := by
 unfold fop at h; unfold execOp
 split at h <;> rename_i heq <;> simp only [heq]
 . simp only [Xa, Xb] at h; obtain ⟨rfl, rfl⟩ := h; exact ⟨_, rfl, hev _⟩
 . simp only [Xa, Xb] at h; obtain ⟨rfl, rfl⟩ := h; exact ⟨_, rfl, hev _⟩
 . exact zq8 h hc (hev _) (hev _) (hev _)
 . obtain ⟨c', h1, rfl⟩ := q3w h; obtain ⟨z, hz, hr⟩ := z6c hhp h1 hc.2 (q1b (hev _) hc.1); exact ⟨z, by simp [hz], hr⟩
 . obtain ⟨c', h1, rfl⟩ := q3w h; obtain ⟨c'', h2, rfl⟩ := q3w h1; obtain ⟨z, hz, hr⟩ := zr3 hhp h2 hc.2.2 (q1b (hev _) hc.1) (q1b (hev _) hc.2.1); exact ⟨z, by simp [hz], hr⟩
 .
  rename_i x
  split at h
  .
   rename_i hp'
   simp only [Xa, Xb] at h; obtain ⟨rfl, rfl⟩ := h; have := q1b (hev x) hc; refine ⟨ρ x, ?_, this⟩
   cases hx : (ev x).st <;> rw [hx] at this hp' <;> simp only [j00, X4] at hp' <;> simp only [rep] at this
   . obtain ⟨_, b, C, _, e⟩ := this; rw [e]; rfl
   . obtain ⟨_, b, C, _, e⟩ := this; rw [e]; rfl
   . obtain ⟨b, o, e, _⟩ := this; rw [e]; rfl
   . obtain ⟨l, e, _⟩ := this; rw [e]; rfl
  . cases h
 . obtain ⟨c', h1, rfl⟩ := q3w h; obtain ⟨c'', h2, rfl⟩ := q3w h1; obtain ⟨z, hz, hr⟩ := j0k (P := P) h2 hc.2.2 (q1b (hev _) hc.1) (q1b (hev _) hc.2.1); exact ⟨z, by simp only [Sem.run_bind, Sem.run_pure] at hz ⊢; rw [hz]; rfl, hr⟩
 . obtain ⟨c', h1, rfl⟩ := q3w h; obtain ⟨z, hz, hr⟩ := j17 (P := P) h1 (q1b (hev _) hc.1); exact ⟨z, by simp [hz], hr⟩
 . obtain ⟨c', h1, rfl⟩ := q3w h; obtain ⟨z, hz, hr⟩ := zs1 h1 hc.2 (q1b (hev _) hc.1); exact ⟨z, by simp [hz], hr⟩
 .
  rename_i t x lo hi
  obtain ⟨c', h1, rfl⟩ := q3w h; simp only [Xd, Xb] at h1; obtain ⟨⟨c'', r'⟩, h2, rfl, rfl⟩ := h1; obtain ⟨hx, ⟨hlo, hhi⟩, hc'⟩ := hc; obtain ⟨z, hz, hr⟩ := zj0 (P := P) (lo' := lo.map ρ) (hi' := hi.map ρ) h2 hc' (q1b (hev _) hx)
   (fun y hy => by
    cases lo with
    | none => cases hy
    | some l => simp only [Yz, Xa, oneed] at hy hlo ⊢; subst hy; exact ⟨_, rfl, q1b (hev l) hlo⟩)
   (fun hn => by cases lo <;> simp_all)
   (fun y hy => by
    cases hi with
    | none => cases hy
    | some l => simp only [Yz, Xa, oneed] at hy hhi ⊢; subst hy; exact ⟨_, rfl, q1b (hev l) hhi⟩)
   (fun hn => by cases hi <;> simp_all)
  exact ⟨z, by simp [hz], hr⟩
 . obtain ⟨c', h1, rfl⟩ := q3w h; obtain ⟨z, hz, hr⟩ := zr9 h1 hc.2 (q1b (hev _) hc.1); exact ⟨z, by simp [hz], hr⟩
 . obtain ⟨c', h1, rfl⟩ := q3w h; obtain ⟨z, hz, hr⟩ := zm9 h1 hc.2 (q1b (hev _) hc.1); exact ⟨z, by simp [hz], hr⟩
 . obtain ⟨c', h1, rfl⟩ := q3w h; obtain ⟨c'', h2, rfl⟩ := q3w h1; obtain ⟨z, hz, hr⟩ := zr6 h2 hc.2.2 (q1b (hev _) hc.1) (q1b (hev _) hc.2.1); exact ⟨z, by simp [hz], hr⟩
 . obtain ⟨c', h1, rfl⟩ := q3w h; obtain ⟨c'', h2, rfl⟩ := q3w h1; obtain ⟨z, hz, hr⟩ := zm2 h2 hc.2.2 (q1b (hev _) hc.1) (q1b (hev _) hc.2.1); exact ⟨z, by simp [hz], hr⟩
 . obtain ⟨c', h1, rfl⟩ := q3w h; obtain ⟨z, hz, hr⟩ := za4 (P := P) h1 hc.2 (q1b (hev _) hc.1); exact ⟨z, by simp [hz], hr⟩
 .
  rename_i f first caps
  split at h
  .
   rename_i hf
   simp only [Xa, Xb] at h; obtain ⟨rfl, rfl⟩ := h; have hfe : first = #[] := by
    apply Xr; simpa using hf
   subst hfe; refine ⟨.func (.func f) #[] ⟨caps.toList.map ρ⟩, ?_, ?_⟩
   . have e : caps.map ρ = ⟨caps.toList.map ρ⟩ := Xr (by simp); simp [Instr.makeFunc, e]
   . simp only [rep]; exact ⟨_, rfl, z2v hev _ hc⟩
  . cases h
 .
  rename_i cl
  split at h
  .
   rename_i x t e1 e2 e3
   obtain ⟨c', h1, rfl⟩ := q3w h; obtain ⟨z, hz, hr⟩ := zz6 (ty := o.type) h1 hc.2 (q1b (hev _) hc.1); have e2' : cl.args = #[x] := Xr e2; have e3' : cl.argTypes = #[t] := Xr e3; refine ⟨z, ?_, hr⟩; simp [resolve, e1, e2', e3', invoke, builtin, hz]
  .
   rename_i _ x y e1 e2
   obtain ⟨c', h1, rfl⟩ := q3w h; obtain ⟨c'', h2, rfl⟩ := q3w h1; obtain ⟨z, hz, hr⟩ := zz0 (P := P) (ts := cl.argTypes) (t := o.type) h2 (q1b (hev _) hc.1) (q1b (hev _) hc.2.1); have e2' : cl.args = #[x, y] := Xr e2; refine ⟨z, ?_, hr⟩; simp [resolve, e1, e2', invoke, builtin, hz]
  .
   rename_i _ x y e1 e2
   obtain ⟨c', h1, rfl⟩ := q3w h; obtain ⟨c'', h2, rfl⟩ := q3w h1; obtain ⟨z, hz, hr⟩ := zz2 (P := P) (ts := cl.argTypes) (t := o.type) h2 (q1b (hev _) hc.1) (q1b (hev _) hc.2.1); have e2' : cl.args = #[x, y] := Xr e2; refine ⟨z, ?_, hr⟩; simp [resolve, e1, e2', invoke, builtin, hz]
  . cases h
 . cases h
end
end
section
open Go Go.RowKit
def St.put (s : St) (d : Option Nat) (x : AV) : St := match d with
 | some d => { s with env := (d, x) :: s.env }
 | none => s
def dok (n : Nat) : Option Nat -> Bool | none => true | some d => decide (d < n)
section
variable {P : Program} {C : Ctx P} {s : St} {a : Act} {w : World} {β : Ghost}
theorem z0l (t : Array Value) (d i : Nat) (u v : Value) (hd : d < t.size) : (t.setIfInBounds d u).getD i v = if d = i then u else t.getD i v := by
 simp only [Array.getD_eq_getD_getElem?, Array.getElem?_setIfInBounds, hd, if_true]
 split
 . rfl
 . rfl
theorem Rel.put (h : Rel C s a w β) {d : Option Nat} {x : AV} {u : Value} (hr : rep w β s.nx (own β s.hp C.A) x u) (hd : dok s.nt d = true) : Rel C (s.put d x) (a.put d u) w β := by
  cases d with
  | none => exact h
  | some d =>
    simp only [dok, decide_eq_true_eq] at hd; have hsz : d < a.tmps.size := by rw [h.nt]; exact hd
    exact { df := h.df, nt := by simp only [Act.put, St.put, Array.size_setIfInBounds]; exact h.nt, hp := h.hp, ext := h.ext, alt := h.alt, gs := h.gs, nb := h.nb, ntc := h.ntc,
            env := by
              intro t; simp only [St.put, Act.put, q0u, z0l _ _ _ _ _ hsz]
              split
              . exact hr
              . exact h.env t }
theorem Rel.ev (h : Rel C s a w β) (x : Operand) : rep w β s.nx (own β s.hp C.A) (u6 s.env x) (a.eval x) := by
 cases x with
 | tmp t => exact h.env t
 | const v => simp only [u6, rep, Act.eval]
 | global g => simp only [u6, rep, Act.eval]
 | func f => simp only [u6, rep, Act.eval]; exact ⟨[], rfl, by simp [x9]⟩
def upd (β : Ghost) (n : Nat) (x : Option (Nat × Nat)) : Ghost := ⟨fun i => if i = n then x else β i, fun i => if i = n then [] else β.inn i⟩
theorem q8r (β : Ghost) (n : Nat) (x : Option (Nat × Nat)) : (upd β n x).inn n = [] := by simp [upd]
theorem q56 (β : Ghost) (n : Nat) (x : Option (Nat × Nat)) (i : Nat) (h : i < n) : (upd β n x).inn i = β.inn i := by simp [upd]; omega
theorem qz9 {β : Ghost} {n : Nat} {x : Option (Nat × Nat)} {i b : Nat} (h : i < n) : bof (upd β n x) i b ↔ bof β i b := by unfold bof; rw [show (upd β n x).f i = β.f i by simp [upd]; omega, q56 _ _ _ _ h]
theorem z05 {β : Ghost} {n : Nat} {x : Option (Nat × Nat)} {b : Nat} (h : bof (upd β n x) n b) : ∃ c, x = some (b, c) := by
 rcases h with ⟨C, hc⟩ | h
 . exact ⟨C, by simpa [upd] using hc⟩
 . rw [q8r] at h; cases h
theorem q1a (β : Ghost) (n : Nat) (x : Option (Nat × Nat)) : upd β n x n = x := by simp [upd]
theorem q2j (β : Ghost) (n : Nat) (x : Option (Nat × Nat)) (i : Nat) (h : i < n) : upd β n x i = β i := by simp [upd]; omega
theorem Rel.step (h : Rel C s a w β) {w' : World} {β' : Ghost} {hp' : Hp} {nx' : Nat} (hn : s.nx <= nx') (hb : ∀ id, id < s.nx -> β' id = β id) (hsz : w.heap.size <= w'.heap.size)
    (hK : ∀ b, b < w.heap.size -> ¬ blks β s.hp b -> w'.heap[b]? = w.heap[b]?) (hO : ∀ b, b < w.heap.size -> blks β' hp' b -> blks β s.hp b)
    (hhp : HpRel w' β' nx' C.A hp') (hids : ∀ p ∈ hp', p.1 ∈ s.hp.map (·.1) \/ s.nx <= p.1) (ho : w'.os = w.os) (ht : w'.tape = w.tape) (hout : w'.output = w.output /\ (dkF = true -> w.drawn <= w'.drawn)) (hbi : ∀ id, id < s.nx -> id ∉ s.hp.map (·.1) -> β'.inn id = β.inn id := by first | exact fun _ _ _ => rfl | exact fun id hid _ => q56 _ _ _ _ hid) :
    Rel C { s with hp := hp', nx := nx' } a w' β' := by
  have hA : Agree w w' (own β s.hp C.A) (own β' hp' C.A) := ⟨hsz, fun b hnb hlt => ⟨hK b hlt (fun hx => hnb (.inr hx)), fun ho' => by
    rcases ho' with h1 | h1
    . exact hnb (.inl h1)
    . exact hnb (.inr (hO b hlt h1))⟩⟩
  exact { df := h.df, nt := h.nt, hp := hhp, alt := fun b hb => Xf (h.alt b hb) hsz, gs := h.gs, nb := h.nb, ntc := h.ntc,
          env := fun t => q4v hA s.nx nx' hn hb _ _ (h.env t),
          ext := { nx := Ya h.ext.nx hn,
                   gh := fun id hid => (hb id (Xf hid h.ext.nx)).trans (h.ext.gh id hid),
                   gi := fun id hid hni => (hbi id (Xf hid h.ext.nx) fun hm => by
                     obtain ⟨p, hp, rfl⟩ := X3.1 hm; rcases h.ext.ids p hp with h1 | h1
                     . exact hni h1
                     . omega).trans (h.ext.gi id hid hni)
                   ids := fun p hp => by
                     rcases hids p hp with h1 | h1
                     . obtain ⟨q, hq, he⟩ := X3.1 h1
                       rw [<- he]; exact h.ext.ids q hq
                     . exact .inr (Ya h.ext.nx h1),
                   blk := fun p hp b hbc => by
                     rcases Yg b w.heap.size with hlt | hge
                     . obtain ⟨q, hq, hc'⟩ := hO b hlt ⟨p, hp, hbc⟩
                       exact h.ext.blk q hq b hc'
                     . exact .inr (Ya h.ext.size hge),
                   os := ho.trans h.ext.os, tape := ht.trans h.ext.tape, output := ⟨hout.1.trans h.ext.output.1, fun k => Ya (h.ext.output.2 k) (hout.2 k)⟩, size := Ya h.ext.size hsz,
                   keep := fun b hlt hnb => by
                     refine (hK b (Xf hlt h.ext.size) ?_).trans (h.ext.keep b hlt hnb); rintro ⟨q, hq, hc⟩; rcases h.ext.blk q hq b hc with h1 | h1
                     . exact hnb h1
                     . omega } }
theorem HpRel.cons {nx : Nat} {A : Nat -> Prop} {hp : Hp} {w' : World} (h : HpRel w β nx A hp) {b c : Nat} {o : AObj}
  (hA : Agree w w' (own β hp A) (own (upd β nx (some (b, c))) ((nx, o) :: hp) A))
  (hk : ∀ b', blks β hp b' -> w'.heap[b']? = w.heap[b']?)
  (hnb : ¬ blks β hp b) (hna : ¬ A b)
  (ho : q5f w' (upd β nx (some (b, c))) (nx + 1) (own (upd β nx (some (b, c))) ((nx, o) :: hp) A) nx o) :
  HpRel w' (upd β nx (some (b, c))) (nx + 1) A ((nx, o) :: hp) := by
 have hne : ∀ p ∈ hp, p.1 ≠ nx := fun p hp' => Nat.ne_of_lt (h.lt p hp'); refine ⟨?_, ?_, ?_, ?_, ?_, ?_, ?_⟩
 .
  intro p hp'; rcases Xc.1 hp' with rfl | hp'
  . exact ho
  . exact q3m hA (X0 _) (fun id hid => q2j _ _ _ _ hid) (h.lt p hp') (fun b' hb' => hk b' ⟨p, hp', hb'⟩) (fun _ => q56 _ _ _ _ (h.lt p hp')) (h.obj p hp')
 .
  intro p hp'; rcases Xc.1 hp' with rfl | hp'
  . exact Xo _
  . exact Yw (h.lt p hp')
 . simp only [Xi, Yh]; refine ⟨?_, h.nd⟩; intro hm; obtain ⟨q, hq, he⟩ := X3.1 hm; exact hne q hq he
 .
  intro p hp1 q hq1 b' c1 c2 h1 h2; rcases Xc.1 hp1 with rfl | hp1 <;> rcases Xc.1 hq1 with rfl | hq1
  . rfl
  . rw [q1a] at h1; rw [q2j _ _ _ _ (h.lt q hq1)] at h2; simp only [Xa, Xb] at h1; exact absurd (q6s hq1 (by rw [h1.1]; exact h2)) hnb
  . rw [q1a] at h2; rw [q2j _ _ _ _ (h.lt p hp1)] at h1; simp only [Xa, Xb] at h2; exact absurd (q6s hp1 (by rw [h2.1]; exact h1)) hnb
  . rw [q2j _ _ _ _ (h.lt p hp1)] at h1; rw [q2j _ _ _ _ (h.lt q hq1)] at h2; exact h.inj p hp1 q hq1 b' c1 c2 h1 h2
 .
  intro p hp1 b' c1 h1; rcases Xc.1 hp1 with rfl | hp1
  . rw [q1a] at h1; simp only [Xa, Xb] at h1; rw [<- h1.1]; exact hna
  . rw [q2j _ _ _ _ (h.lt p hp1)] at h1; exact h.av p hp1 b' c1 h1
 .
  intro p hp1 hc; rcases Xc.1 hp1 with rfl | hp1
  . exact q8r _ _ _
  . rw [q56 _ _ _ _ (h.lt p hp1)]; exact h.i0 p hp1 hc
 .
  intro p hp1 b' hb; rcases Xc.1 hp1 with rfl | hp1
  . rw [q8r] at hb; cases hb
  .
   rw [q56 _ _ _ _ (h.lt p hp1)] at hb; obtain ⟨i1, i2, i3, i4⟩ := h.ib p hp1 b' hb; refine ⟨Xf i1 hA.1, i2, fun q hq1 C hc => ?_, fun q hq1 hb2 => ?_⟩
   .
    rcases Xc.1 hq1 with rfl | hq1
    . rw [q1a] at hc; simp only [Xa, Xb] at hc; exact hnb ⟨p, hp1, .inr (by rw [hc.1]; exact hb)⟩
    . rw [q2j _ _ _ _ (h.lt q hq1)] at hc; exact i3 q hq1 C hc
   .
    rcases Xc.1 hq1 with rfl | hq1
    . rw [q8r] at hb2; cases hb2
    . rw [q56 _ _ _ _ (h.lt q hq1)] at hb2; exact i4 q hq1 hb2
theorem Rel.alloc (h : Rel C s a w β) {cs : List Value} {e : TypeId} {o : AObj} {c : Nat}
  (ho : ∀ (w' : World) (ow' : Nat -> Prop), Agree w w' (own β s.hp C.A) ow' -> w'.heap[w.heap.size]? = some (.cells ⟨cs⟩ e (0, 0)) -> q5f w' (upd β s.nx (some (w.heap.size, c))) (s.nx + 1) ow' s.nx o) :
  Rel C { s with hp := (s.nx, o) :: s.hp, nx := s.nx + 1 } a (w.alloc (.cells ⟨cs⟩ e)) (upd β s.nx (some (w.heap.size, c))) := by
 have hlt : ∀ b, b < w.heap.size -> (w.alloc (.cells ⟨cs⟩ e)).heap[b]? = w.heap[b]? := fun b hb => Below.heap_alloc w _ b hb; have hsz : w.heap.size <= (w.alloc (.cells ⟨cs⟩ e)).heap.size := by simp
 have hbl : ∀ b, blks β s.hp b -> b < w.heap.size := fun b ⟨q, hq, hc⟩ => h.hp.bofLt q hq b hc; have hO : ∀ b, b < w.heap.size -> blks (upd β s.nx (some (w.heap.size, c))) ((s.nx, o) :: s.hp) b -> blks β s.hp b := by
  rintro b hb ⟨q, hq, hc⟩; rcases Xc.1 hq with rfl | hq
  . obtain ⟨c', hc⟩ := z05 hc; simp only [Xa, Xb] at hc; omega
  . exact ⟨q, hq, (qz9 (h.hp.lt q hq)).1 hc⟩
 have hA : Agree w (w.alloc (.cells ⟨cs⟩ e)) (own β s.hp C.A) (own (upd β s.nx (some (w.heap.size, c))) ((s.nx, o) :: s.hp) C.A) :=
  ⟨hsz, fun b hnb hb => ⟨hlt b hb, fun ho' => by
   rcases ho' with h1 | h1
   . exact hnb (.inl h1)
   . exact hnb (.inr (hO b hb h1))⟩⟩
 refine h.step (X0 _) (fun id hid => q2j _ _ _ _ hid) hsz (fun b hb _ => hlt b hb) hO ?_ ?_ rfl rfl ⟨rfl, fun _ => Xe _⟩
 . refine h.hp.cons hA (fun b hb => hlt b (hbl b hb)) (fun hx => Nat.lt_irrefl _ (hbl _ hx)) (fun hx => ?_) (ho _ _ hA (heap_alloc_new w _)); have := h.alt _ hx; have := h.ext.size; omega
 .
  intro p hp; rcases Xc.1 hp with rfl | hp
  . exact .inr (Xe _)
  . exact .inl (Xk hp)
end
end
section
open Go Go.RowKit
def q8n : AV -> Bool
 | .v x => x.oneCell'
 | .ptr .. | .apt .. | .sl .. | .osl .. | .el .. | .clo .. | .mp .. => true
 | _ => false
def q8j : AV -> Bool
 | .v _ | .sl .. | .el .. => true
 | _ => false
section
variable {P : Program} {C : Ctx P} {s : St} {a : Act} {w : World} {β : Ghost} {nx : Nat} {ow : Nat -> Prop}
theorem zy1 {x : AV} {u : Value} (h : q8n x = true) (hr : rep w β nx ow x u) : u.oneCell' = true := by
 cases x <;> simp only [q8n, X4] at h <;> simp only [rep] at hr
 . rw [hr]; exact h
 . obtain ⟨_, b, c, _, rfl⟩ := hr; rfl
 . obtain ⟨_, b, c, _, rfl⟩ := hr; rfl
 . rcases hr with ⟨_, a, c, rfl⟩ | ⟨b, o, cap, rfl, _⟩ <;> rfl
 . rcases hr.2 with ⟨_, _, _, rfl⟩ | ⟨b, c, cap, ad, _, rfl, _⟩ <;> rfl
 . obtain ⟨b, o, rfl, _⟩ := hr; rfl
 . obtain ⟨l, rfl, hl⟩ := hr; rfl
 . obtain ⟨_, b, c, _, rfl⟩ := hr; rfl
theorem q6w : ∀ {xs : List AV} {us : List Value}, xs.all q8n = true -> x9 w β nx ow xs us -> ∀ u ∈ us, u.oneCell' = true
 | [], [], _, _, u, hu => by simp at hu
 | x :: xs, v :: us, h, hr, u, hu => by
  simp only [Yd, X1] at h; simp only [x9] at hr; rcases Xc.1 hu with rfl | hu
  . exact zy1 h.1 hr.1
  . exact q6w h.2 hr.2 u hu
 | [], _ :: _, _, h, _, _ => by simp only [x9] at h
 | _ :: _, [], _, h, _, _ => by simp only [x9] at h
theorem z1n {x : AV} {u : Value} (h : q8j x = true) (hr : rep w β nx ow x u) : rep w β 0 ow x u := by
 cases x <;> simp only [q8j, X4] at h <;> simpa only [rep] using hr
theorem q9c : ∀ {xs : List AV} {us : List Value}, xs.all q8j = true -> x9 w β nx ow xs us -> x9 w β 0 ow xs us
 | [], [], _, _ => by simp only [x9]
 | x :: xs, v :: us, h, hr => by
  simp only [Yd, X1] at h; simp only [x9] at hr ⊢; exact ⟨z1n h.1 hr.1, q9c h.2 hr.2⟩
 | [], _ :: _, _, h => by simp only [x9] at h
 | _ :: _, [], _, h => by simp only [x9] at h
theorem qj7 {b : Nat} : ∀ {as : List AV} {us : List Value} {o : Nat}, x9 w β 0 ow as us -> (∀ u ∈ us, u.oneCell' = true) -> (∀ (j : Nat) (u : Value), us[j]? = some u -> w.cell? ⟨b, o + j, none⟩ = some u) -> q3s w β ow b as o
 | [], [], _, _, _, _ => by simp only [q3s]
 | x :: xs, u :: us, o, h, h1, hu => by
  simp only [x9] at h; simp only [q3s]; refine ⟨⟨u, by simpa using hu 0 u rfl, h1 u Xu, h.1⟩, qj7 h.2 (fun y hy => h1 y (Xj _ hy)) fun j v hj => ?_⟩; rw [show o + 1 + j = o + (j + 1) by omega]; exact hu (j + 1) v (by simpa using hj)
 | [], _ :: _, _, h, _, _ => by simp only [x9] at h
 | _ :: _, [], _, h, _, _ => by simp only [x9] at h
end
end
section
open Go Go.RowKit
def z2p (cs : List AV) (off len : Nat) : List (List AV) := ((cs.drop off).take len).map fun c => [c]
def z8i (rs : List (List AV)) : Bool := rs.all fun r => r.all fun c => q8n c && q8j c
theorem z8h : ∀ {as : List AV}, z8i (as.map fun c => [c]) = true -> as.all q8n = true /\ as.all q8j = true
 | [], _ => ⟨rfl, rfl⟩
 | a :: as, h => by
  simp only [z8i, Xi, Yd, List.all_nil, Bool.and_true, X1] at h; have := z8h (as := as) (by simpa only [z8i] using h.2); simp only [Yd, X1]; exact ⟨⟨h.1.1, this.1⟩, h.1.2, this.2⟩
theorem z4d {w : World} {β : Ghost} {ow : Nat -> Prop} {b : Nat} : ∀ {as : List AV} {us : List Value} {o : Nat}, x9 w β 0 ow as us -> (∀ u ∈ us, u.oneCell' = true) -> (∀ (j : Nat) (u : Value), us[j]? = some u -> w.cell? ⟨b, o + j, none⟩ = some u) -> q0j w β ow 1 b (as.map fun c => [c]) o
 | [], [], _, _, _, _ => by simp only [List.map_nil, q0j]
 | x :: xs, u :: us, o, h, h1, hu => by
  simp only [x9] at h; simp only [Xi, q0j, q3s]; refine ⟨rfl, ⟨⟨u, by simpa using hu 0 u rfl, h1 u Xu, h.1⟩, trivial⟩, z4d h.2 (fun y hy => h1 y (Xj _ hy)) fun j v hj => ?_⟩; rw [show o + 1 + j = o + (j + 1) by omega]; exact hu (j + 1) v (by simpa using hj)
 | [], _ :: _, _, h, _, _ => by simp only [x9] at h
 | _ :: _, [], _, h, _, _ => by simp only [x9] at h
def AvLe (rn : Nat -> Option Nat) (hp : Hp) (gone : Nat -> Prop) (nx : Nat) : AV -> AV -> Prop
 | _, .junk => True
 | .v x, .v y => x = y
 | .v x, .sl _ ys => x = .slice none 0 0 /\ ys = []
 | .v x, .osl id _ off len => x = .slice none 0 0 /\ off = 0 /\ len = 0 /\ rn id = none /\ id < nx
 | .ptr j off, .ptr id off' => rn id = some j /\ off = off' /\ id < nx
 | .apt j sz i off, .apt id sz' i' off' => rn id = some j /\ sz = sz' /\ i = i' /\ off = off' /\ id < nx
 | .osl j sz off len, .osl id sz' off' len' => rn id = some j /\ sz = sz' /\ off = off' /\ len = len' /\ id < nx
 | .bsl j off len, .bsl id off' len' => rn id = some j /\ off = off' /\ len = len' /\ id < nx
 | .osl j sz off len, .sl sz' ys => sz = sz' /\ gone j /\ ∃ xs, q0e hp j = some (.arr sz xs) /\ off + len <= xs.length /\ ys = (xs.drop off).take len
 | .sl sz xs, .sl sz' ys => xs = ys /\ (sz = sz' \/ xs = [])
 | .bsl j off len, .sl sz ys => sz = 1 /\ gone j /\ ∃ cs, q0e hp j = some (.box cs) /\ off + len <= cs.length /\ z8i (z2p cs off len) = true /\ ys = z2p cs off len
 | .el sz xs i off, .el sz' ys i' off' => sz = sz' /\ xs = ys /\ i = i' /\ off = off'
 | .ptr j off, .el sz ys i off' => i = 0 /\ off = off' /\ gone j /\ ∃ cs, q0e hp j = some (.box cs) /\ cs.all q8n = true /\ cs.all q8j = true /\ sz = cs.length /\ ys = [cs]
 | .agg xs, .agg ys => xs.length = ys.length /\ AvLeL rn hp gone nx xs ys
 | .tup xs, .tup ys => xs.length = ys.length /\ AvLeL rn hp gone nx xs ys
 | .clo f xs, .clo g ys => f = g /\ xs.length = ys.length /\ AvLeL rn hp gone nx xs ys
 | .mp j, .mp id => rn id = some j /\ id < nx
 | .erb g, .erb g' => g = g'
 | .v x, .erb g => x = .nilIface /\ g = true
 | .grd g a, .grd g' b => g = g' /\ AvLe rn hp gone nx a b
 | .grd g a, b => g = true /\ AvLe rn hp gone nx a b
 | _, _ => False
  where
 AvLeL (rn : Nat -> Option Nat) (hp : Hp) (gone : Nat -> Prop) (nx : Nat) : List AV -> List AV -> Prop
 | a :: as, b :: bs => AvLe rn hp gone nx a b /\ AvLeL rn hp gone nx as bs
 | [], [] => True
 | _, _ => False
section
variable {w : World} {β β' : Ghost} {nx nx' : Nat} {A : Nat -> Prop} {hp : Hp} {ow' : Nat -> Prop} {rn : Nat -> Option Nat} {gone : Nat -> Prop}
mutual
theorem q2o (hA : Agree w w (own β hp A) ow') (hhp : HpRel w β nx A hp) (hb : ∀ id, id < nx' -> β' id = (rn id).bind β)
    (hg : ∀ j, gone j -> ∀ o, (j, o) ∈ hp -> ∀ b C, β j = some (b, C) -> ¬ ow' b) :
    ∀ (a a' : AV) (u : Value), AvLe rn hp gone nx' a a' -> rep w β nx (own β hp A) a u -> rep w β' nx' ow' a' u := by
  intro a a' u h hr
  cases a' with
  | junk => simp only [rep]
  | erb y => cases a <;> simp only [AvLe] at h <;> first
    | (simp only [rep] at hr ⊢; rw [<- h]; exact hr)
    | (simp only [rep] at hr ⊢; rw [hr, h.1, h.2]; simp)
    | (simp only [rep] at hr; exact q2o hA hhp hb hg _ _ u h.2 (hr.1 h.1))
  | v y => cases a <;> simp only [AvLe] at h <;> first
    | (simp only [rep] at hr ⊢; rw [hr]; exact h)
    | (simp only [rep] at hr; exact q2o hA hhp hb hg _ _ u h.2 (hr.1 h.1))
  | ptr id off => cases a <;> simp only [AvLe] at h <;> first
    | (simp only [rep] at hr ⊢
       obtain ⟨h1, h2, h3⟩ := h; obtain ⟨_, b, C, h4, h5⟩ := hr; exact ⟨h3, b, C, by rw [hb id h3, h1]; exact h4, by rw [h5, h2]⟩)
    | (simp only [rep] at hr; exact q2o hA hhp hb hg _ _ u h.2 (hr.1 h.1))
  | mp id => cases a <;> simp only [AvLe] at h <;> first
    | (simp only [rep] at hr ⊢
       obtain ⟨h1, h3⟩ := h; obtain ⟨_, b, C, h4, h5⟩ := hr; exact ⟨h3, b, C, by rw [hb id h3, h1]; exact h4, h5⟩)
    | (simp only [rep] at hr; exact q2o hA hhp hb hg _ _ u h.2 (hr.1 h.1))
  | apt id sz i off => cases a <;> simp only [AvLe] at h <;> first
    | (simp only [rep] at hr ⊢
       obtain ⟨h1, h2, h3, h4, h5⟩ := h; obtain ⟨_, b, C, h6, h7⟩ := hr; exact ⟨h5, b, C, by rw [hb id h5, h1]; exact h6, by rw [h7, h2, h3, h4]⟩)
    | (simp only [rep] at hr; exact q2o hA hhp hb hg _ _ u h.2 (hr.1 h.1))
  | sl sz ys => cases a <;> simp only [AvLe] at h <;> first
    | (rename_i x
       simp only [rep] at hr ⊢; obtain ⟨rfl, rfl⟩ := h; exact .inl ⟨rfl, none, 0, hr⟩)
    | (rename_i sz0 xs
       obtain ⟨rfl, h2⟩ := h; simp only [rep] at hr ⊢; rcases hr with hr | ⟨b, o, cap, h3, h4, h5, h6, h7⟩
       . exact .inl hr
       . rcases h2 with rfl | rfl
         . exact .inr ⟨b, o, cap, h3, h4, (hA.2 b h5 h6).2, h6, q1r hA _ _ (fun _ _ hu => hu) _ _ h7⟩
         . exact .inl ⟨rfl, _, _, h3⟩)
    | (rename_i j sz0 off len
       obtain ⟨rfl, h2, xs, h3, h4, rfl⟩ := h; simp only [rep] at hr ⊢; obtain ⟨hlt, hr⟩ := hr; have ho := hhp.obj _ (q0g h3); rcases hr with ⟨h5, rfl, rfl, rfl⟩ | ⟨b, C, cap, ad, h5, rfl, h6, h7, h8⟩
       . exact .inl ⟨by simp, none, 0, rfl⟩
       . rcases ho with ⟨h9, _⟩ | ⟨b', C', cur, e, h9, h10, h11, h12, h13, h14⟩
         . simp only at h9; rw [h5] at h9; cases h9
         . simp only at h9
           rw [h5] at h9; simp only [Xa, Xb] at h9; obtain ⟨rfl, rfl⟩ := h9; have hl : ((xs.drop off).take len).length = len := by simp; omega
           rcases h8 with rfl | h8
           . refine .inr ⟨b, off * sz0, cap, by rw [hl], by rw [hl]; exact h6, hg j h2 _ (q0g h3) b C h5, (Array.getElem?_eq_some_iff.1 h10).1, ?_⟩
             have := q9p (qg9 h14 off) len; rw [Nat.zero_add] at this; exact q1r hA _ _ (fun _ _ hu => hu) _ _ this
           . have : len = 0 := by omega
             subst this; exact .inl ⟨by simp, _, _, rfl⟩)
    | (rename_i j off len
       obtain ⟨rfl, h2, cs, h3, h4, h5, rfl⟩ := h; obtain ⟨h5, h6⟩ := z8h h5; simp only [rep] at hr ⊢; obtain ⟨_, b, C, cap, ad, h7, rfl, h8, h9⟩ := hr; obtain ⟨b', C', cur, e, h10, h11, h12⟩ := hhp.obj _ (q0g h3); simp only at h10; rw [h7] at h10; simp only [Xa, Xb] at h10; obtain ⟨rfl, rfl⟩ := h10; have hl : (z2p cs off len).length = len := by simp [z2p]; omega
       rcases h9 with rfl | rfl
       . refine .inr ⟨b, off, cap, by rw [hl], by rw [hl]; exact h8, hg j h2 _ (q0g h3) b C h7, (Array.getElem?_eq_some_iff.1 h11).1, ?_⟩
         have h13 := q64 (q74 h12 off) len; have h14 := q1h (w' := w) (β' := β') (ow' := ow') hA 0 0 (Nat.le_refl _) (fun _ hi => absurd hi (Nat.not_lt_zero _)) _ _ (q9c h6 h13); refine z4d h14 (q6w h5 h13) (fun k u hj => ?_); rw [cell_of_row w b (off + k) cur e (0, 0) h11]; rw [List.getElem?_take] at hj
         split at hj
         . simpa using hj
         . cases hj
       . exact .inl ⟨by simp [z2p], _, _, rfl⟩)
    | (simp only [rep] at hr; exact q2o hA hhp hb hg _ _ u h.2 (hr.1 h.1))
  | osl id sz off len => cases a <;> simp only [AvLe] at h <;> first
    | (rename_i x
       obtain ⟨h1, h2, h3, h4, h5⟩ := h; simp only [rep] at hr ⊢; refine ⟨h5, .inl ⟨?_, h2, h3, hr.trans h1⟩⟩; rw [hb id h5, h4]; rfl)
    | (obtain ⟨h1, rfl, rfl, rfl, h5⟩ := h
       simp only [rep] at hr ⊢; rw [hb id h5, h1]; exact ⟨h5, hr.2⟩)
    | (simp only [rep] at hr; exact q2o hA hhp hb hg _ _ u h.2 (hr.1 h.1))
  | bsl id off len => cases a <;> simp only [AvLe] at h <;> first
    | (obtain ⟨h1, rfl, rfl, h5⟩ := h
       simp only [rep] at hr ⊢; rw [hb id h5, h1]; exact ⟨h5, hr.2⟩)
    | (simp only [rep] at hr; exact q2o hA hhp hb hg _ _ u h.2 (hr.1 h.1))
  | el sz ys i off => cases a <;> simp only [AvLe] at h <;> first
    | (obtain ⟨rfl, rfl, h2, cs, h3, h4, h5, rfl, rfl⟩ := h
       simp only [rep] at hr ⊢; obtain ⟨_, b, C, h6, rfl⟩ := hr; obtain ⟨b', C', cur, e, h7, h8, h9⟩ := hhp.obj _ (q0g h3); simp only at h7; rw [h6] at h7; simp only [Xa, Xb] at h7; obtain ⟨rfl, rfl⟩ := h7; refine ⟨b, 0, by simp, hg _ h2 _ (q0g h3) b C h6, (Xl.1 h8).1, ?_⟩; simp only [q0j]; refine ⟨trivial, ?_, trivial⟩; have h10 := q1h (w' := w) (β' := β') (ow' := ow') hA 0 0 (Xe _) (fun _ hi => absurd hi (Yf _)) _ _ (q9c h5 h9); refine qj7 h10 (q6w h4 h9) (fun j u hj => ?_); rw [Xp, cell_of_row w b j cur e (0, 0) h8]
       simpa using hj)
    | (obtain ⟨rfl, rfl, rfl, rfl⟩ := h
       simp only [rep] at hr ⊢; obtain ⟨b, o, h1, h2, h3, h4⟩ := hr; exact ⟨b, o, h1, (hA.2 b h2 h3).2, h3, q1r hA _ _ (fun _ _ hu => hu) _ _ h4⟩)
    | (simp only [rep] at hr; exact q2o hA hhp hb hg _ _ u h.2 (hr.1 h.1))
  | agg ys => cases a <;> simp only [AvLe] at h <;> first
    | (simp only [rep] at hr ⊢
       obtain ⟨l, h1, h2⟩ := hr; exact ⟨l, h1, q9j hA hhp hb hg _ _ l h.2 h2⟩)
    | (simp only [rep] at hr; exact q2o hA hhp hb hg _ _ u h.2 (hr.1 h.1))
  | tup ys => cases a <;> simp only [AvLe] at h <;> first
    | (simp only [rep] at hr ⊢
       obtain ⟨l, h1, h2⟩ := hr; exact ⟨l, h1, q9j hA hhp hb hg _ _ l h.2 h2⟩)
    | (simp only [rep] at hr; exact q2o hA hhp hb hg _ _ u h.2 (hr.1 h.1))
  | clo f ys => cases a <;> simp only [AvLe] at h <;> first
    | (obtain ⟨rfl, _, h⟩ := h
       simp only [rep] at hr ⊢; obtain ⟨l, h1, h2⟩ := hr; exact ⟨l, h1, q9j hA hhp hb hg _ _ l h h2⟩)
    | (simp only [rep] at hr; exact q2o hA hhp hb hg _ _ u h.2 (hr.1 h.1))
  | grd g b => cases a <;> simp only [AvLe] at h <;> first
    | (obtain ⟨rfl, h⟩ := h
       simp only [rep] at hr ⊢; exact ⟨fun hgt => q2o hA hhp hb hg _ _ u h (hr.1 hgt), hr.2⟩)
  termination_by structural a => a
theorem q9j (hA : Agree w w (own β hp A) ow') (hhp : HpRel w β nx A hp) (hb : ∀ id, id < nx' -> β' id = (rn id).bind β)
    (hg : ∀ j, gone j -> ∀ o, (j, o) ∈ hp -> ∀ b C, β j = some (b, C) -> ¬ ow' b) :
    ∀ (as as' : List AV) (us : List Value), AvLe.AvLeL rn hp gone nx' as as' -> x9 w β nx (own β hp A) as us -> x9 w β' nx' ow' as' us := by
  intro as as' us h hr
  cases as with
  | nil => cases as' with
    | nil => cases us <;> simp only [x9] at hr ⊢
    | cons b bs => simp only [AvLe.AvLeL] at h
  | cons a as => cases as' with
    | nil => simp only [AvLe.AvLeL] at h
    | cons b bs =>
      simp only [AvLe.AvLeL] at h
      cases us with
      | nil => simp only [x9] at hr
      | cons u us =>
        simp only [x9] at hr ⊢; exact ⟨q2o hA hhp hb hg a b u h.1 hr.1, q9j hA hhp hb hg as bs us h.2 hr.2⟩
  termination_by structural as => as
end
end
end
section
open Go Go.RowKit
def q6a (nb : Nat) (l : List (Option Nat)) (id : Nat) : Option Nat := if id < nb then some id else l.getD (id - nb) none
def TL (xs ys : List (List AV)) : Prop := xs = ys \/ ∃ k, ys = xs.take k
theorem j7p (xs : List (List AV)) : TL xs xs = True := by simp [TL]
theorem q04 {xs ys : List (List AV)} (h : xs = ys) : TL xs ys := .inl h
theorem j7o (xs : List (List AV)) (k : Nat) : TL xs (xs.take k) := .inr ⟨k, rfl⟩
def j64 (rn : Nat -> Option Nat) (hp : Hp) (gone : Nat -> Prop) (nx : Nat) : AObj -> AObj -> Prop
 | .box as, .box bs => AvLe.AvLeL rn hp gone nx as bs
 | .arr sz xs, .arr sz' ys => sz = sz' /\ TL xs ys
 | .con K as, .con K' bs => (K = K' /\ AvLe.AvLeL rn hp gone nx as bs) \/ ∃ T E r, K = z1w T /\ K' = j0j T E [] /\ as = .v (.pointer none) :: .v (.slice none 0 0) :: r /\ AvLe.AvLeL rn hp gone nx r bs
 | _, _ => False
def j8q : AObj -> Prop
 | .arr _ xs => xs = []
 | .con K ex => K.N /\ ex = []
 | _ => False
def z5d (rn : Nat -> Option Nat) (hp : Hp) (gone : Nat -> Prop) (nx : Nat) (id : Nat) (o' : AObj) : Prop :=
 match rn id with
 | some j => ∃ o, q0e hp j = some o /\ j64 rn hp gone nx o o'
 | none => j8q o'
def j0p (rn : Nat -> Option Nat) (hp : Hp) (gone : Nat -> Prop) (nx : Nat) : Hp -> Prop
 | [] => True
 | (id, o') :: r => id < nx /\ z5d rn hp gone nx id o' /\ j0p rn hp gone nx r
def zh4 (rn : Nat -> Option Nat) (hp : Hp) (gone : Nat -> Prop) (nx : Nat) (env : List (Nat × AV)) : List (Nat × AV) -> Prop
 | [] => True
 | (k, a) :: r => AvLe rn hp gone nx (q0u env k) a /\ zh4 rn hp gone nx env r
def q90 (rn : Nat -> Option Nat) (j : Nat) : Hp -> Prop
 | [] => True
 | (id, _) :: r => rn id ≠ some j /\ q90 rn j r
def zh3 (rn : Nat -> Option Nat) : Hp -> Prop
 | [] => True
 | (id, _) :: r => (∀ p ∈ r, p.1 ≠ id) /\ (∀ j, rn id = some j -> q90 rn j r) /\ zh3 rn r
def Le (s s' : St) (l : List (Option Nat)) : Prop :=
 s'.nt = s.nt /\ s'.nb = s.nb /\ s.nb <= s'.nx /\ zh4 (q6a s.nb l) s.hp (fun j => q90 (q6a s.nb l) j s'.hp) s'.nx s.env s'.env /\
 j0p (q6a s.nb l) s.hp (fun j => q90 (q6a s.nb l) j s'.hp) s'.nx s'.hp /\ zh3 (q6a s.nb l) s'.hp
theorem qy9 {rn : Nat -> Option Nat} {j : Nat} : ∀ {hp : Hp}, q90 rn j hp -> ∀ p ∈ hp, rn p.1 ≠ some j
 | (id, o) :: r, h, p, hp => by
  rcases Xc.1 hp with rfl | hp
  . exact h.1
  . exact qy9 h.2 p hp
theorem z9f {rn : Nat -> Option Nat} : ∀ {hp : Hp}, zh3 rn hp -> (hp.map (·.1)).Nodup /\ ∀ p ∈ hp, ∀ q ∈ hp, ∀ j, rn p.1 = some j -> rn q.1 = some j -> p.1 = q.1
 | [], _ => by simp
 | (id, o) :: r, h => by
  obtain ⟨h1, h2, h3⟩ := h; obtain ⟨i1, i2⟩ := z9f h3; refine ⟨by simp only [Xi, Yh]; exact ⟨fun hm => by obtain ⟨q, hq, he⟩ := X3.1 hm; exact h1 q hq he, i1⟩, ?_⟩; intro p hp q hq j hpj hqj; rcases Xc.1 hp with rfl | hp <;> rcases Xc.1 hq with rfl | hq
  . rfl
  . exact absurd hqj (qy9 (h2 j hpj) q hq)
  . exact absurd hpj (qy9 (h2 j hqj) p hp)
  . exact i2 p hp q hq j hpj hqj
theorem qj5 {rn : Nat -> Option Nat} {hp : Hp} {gone : Nat -> Prop} {nx : Nat} : ∀ {hp' : Hp}, j0p rn hp gone nx hp' -> ∀ p ∈ hp', p.1 < nx /\ z5d rn hp gone nx p.1 p.2
 | (id, o) :: r, h, p, hp => by
  rcases Xc.1 hp with rfl | hp
  . exact ⟨h.1, h.2.1⟩
  . exact qj5 h.2.2 p hp
theorem z9g {rn : Nat -> Option Nat} {hp : Hp} {gone : Nat -> Prop} {nx : Nat} {env : List (Nat × AV)} : ∀ {env' : List (Nat × AV)}, zh4 rn hp gone nx env env' -> ∀ t, AvLe rn hp gone nx (q0u env t) (q0u env' t)
 | [], _, t => by simp only [q0u]; cases q0u env t <;> simp only [AvLe]
 | (k, a) :: r, h, t => by
  simp only [q0u]
  split
  . rename_i hk; subst hk; exact h.1
  . exact z9g h.2 t
theorem qj4 {P : Program} {C : Ctx P} {s s' : St} {a : Act} {w : World} {β : Ghost} {l : List (Option Nat)} (h : Rel C s a w β) (hl : Le s s' l) :
  ∃ β', Rel C s' a w β' /\ ∀ r r' u, AvLe (q6a s.nb l) s.hp (fun j => q90 (q6a s.nb l) j s'.hp) s'.nx r r' -> rep w β s.nx (own β s.hp C.A) r u -> rep w β' s'.nx (own β' s'.hp C.A) r' u := by
 obtain ⟨l1, l2, l3, l4, l5, l6⟩ := hl
 generalize hrn : q6a s.nb l = rn at l4 l5 l6
 have hfix : ∀ id, id < s.nb -> rn id = some id := fun id hid => by rw [<- hrn]; simp [q6a, hid]
 let β' : Ghost := ⟨fun id => (rn id).bind β, fun id => (rn id).elim [] β.inn⟩
 have hin := z9f l6; have hblk : ∀ p ∈ s'.hp, ∀ b c, β' p.1 = some (b, c) -> ∃ j o, rn p.1 = some j /\ (j, o) ∈ s.hp /\ β j = some (b, c) := by
  intro p hp b c hbc; have h1 := (qj5 l5 p hp).2; unfold z5d at h1; simp only [β'] at hbc
  cases hr : rn p.1 with
  | none => rw [hr] at hbc; cases hbc
  | some j =>
   rw [hr] at h1 hbc; obtain ⟨o, ho, _⟩ := h1; exact ⟨j, o, rfl, q0g ho, hbc⟩
 have hbof : ∀ p ∈ s'.hp, ∀ b, bof β' p.1 b -> ∃ j o, rn p.1 = some j /\ (j, o) ∈ s.hp /\ bof β j b := by
  rintro p hp b (⟨c, hbc⟩ | hb)
  . obtain ⟨j, o, h1, h2, h3⟩ := hblk p hp b c hbc; exact ⟨j, o, h1, h2, .inl ⟨c, h3⟩⟩
  .
   have h1 := (qj5 l5 p hp).2; unfold z5d at h1; simp only [β'] at hb
   cases hr : rn p.1 with
   | none => rw [hr] at hb; cases hb
   | some j =>
    rw [hr] at h1 hb; obtain ⟨o, ho, _⟩ := h1; exact ⟨j, o, rfl, q0g ho, .inr hb⟩
 have hown : ∀ b, own β' s'.hp C.A b -> own β s.hp C.A b := by
  rintro b (hb | ⟨p, hp, hbc⟩)
  . exact .inl hb
  . obtain ⟨j, o, _, h2, h3⟩ := hbof p hp b hbc; exact .inr ⟨(j, o), h2, h3⟩
 have hA : Agree w w (own β s.hp C.A) (own β' s'.hp C.A) := ⟨Xe _, fun b hb _ => ⟨rfl, fun hx => hb (hown b hx)⟩⟩; have hb' : ∀ id, id < s'.nx -> β' id = (rn id).bind β := fun _ _ => rfl; have hg : ∀ j, q90 rn j s'.hp -> ∀ o, (j, o) ∈ s.hp -> ∀ b c, β j = some (b, c) -> ¬ own β' s'.hp C.A b := by
  rintro j hj o ho b c hbc (hx | ⟨p, hp, hbc'⟩)
  . exact h.hp.av _ ho b c hbc hx
  . obtain ⟨j', o', h2, h3, h4⟩ := hbof p hp b hbc'; have := h.hp.bofInj _ ho _ h3 b (.inl ⟨c, hbc⟩) h4; simp only at this; subst this; exact qy9 hj p hp h2
 refine ⟨β', ?_, fun r r' u hr hru => q2o hA h.hp hb' hg r r' u hr hru⟩; refine { df := h.df, nt := by rw [l1]; exact h.nt, nb := by rw [l2]; exact h.nb, ntc := by rw [l1]; exact h.ntc, alt := h.alt, gs := h.gs, env := fun t => q2o hA h.hp hb' hg _ _ _ (z9g l4 t) (h.env t), hp := ?_, ext := ?_ }
 .
  refine ⟨?_, fun p hp => (qj5 l5 p hp).1, hin.1, ?_, ?_, ?_, ?_⟩
  .
   intro p hp; have h1 := (qj5 l5 p hp).2; unfold z5d at h1
   cases hr : rn p.1 with
   | none =>
    rw [hr] at h1; have hn : β' p.1 = none := by simp only [β', hr]; rfl
    cases hp2 : p.2 with
    | box as => rw [hp2] at h1; exact h1.elim
    | arr sz xs => rw [hp2] at h1; exact .inl ⟨hn, h1⟩
    | con K ex => rw [hp2] at h1; exact .inr ⟨hn, h1⟩
   | some j =>
    rw [hr] at h1; obtain ⟨o, ho, h2⟩ := h1; have h3 := h.hp.obj _ (q0g ho); have he : β' p.1 = β j := by simp only [β', hr]; rfl
    cases o with
    | box as =>
     cases hp2 : p.2 with
     | arr sz ys => rw [hp2] at h2; exact h2.elim
     | con K bs => rw [hp2] at h2; exact h2.elim
     | box bs =>
      rw [hp2] at h2; obtain ⟨b, c, cur, e, h4, h5, h6⟩ := h3; exact ⟨b, c, cur, e, he.trans h4, h5, q9j hA h.hp hb' hg _ _ _ h2 h6⟩
    | arr sz xs =>
     cases hp2 : p.2 with
     | box bs => rw [hp2] at h2; exact h2.elim
     | con K bs => rw [hp2] at h2; exact h2.elim
     | arr sz' ys =>
      rw [hp2] at h2; obtain ⟨rfl, h2⟩ := h2; rcases h2 with rfl | ⟨k, rfl⟩
      .
       rcases h3 with ⟨h4, h5⟩ | ⟨b, c, cur, e, h4, h5, h6, h7, h8, h9⟩
       . exact .inl ⟨he.trans h4, h5⟩
       . exact .inr ⟨b, c, cur, e, he.trans h4, h5, h6, h7, h8, q1r hA _ _ (fun _ _ hu => hu) _ _ h9⟩
      .
       rcases h3 with ⟨h4, h5⟩ | ⟨b, c, cur, e, h4, h5, h6, h7, h8, h9⟩
       . exact .inl ⟨he.trans h4, by rw [h5, List.take_nil]⟩
       . exact .inr ⟨b, c, cur, e, he.trans h4, h5, h6, by rw [X2]; omega, h8, q1r hA _ _ (fun _ _ hu => hu) _ _ (q9p h9 k)⟩
    | con K as =>
     cases hp2 : p.2 with
     | box bs => rw [hp2] at h2; exact h2.elim
     | arr sz ys => rw [hp2] at h2; exact h2.elim
     | con K' bs =>
      rw [hp2] at h2; rcases h2 with ⟨rfl, h2⟩ | ⟨T, E, r, rfl, rfl, rfl, h2⟩
      .
       rcases h3 with ⟨b, c, us, h4, h5, h6, h7⟩ | ⟨h4, h5, h6⟩
       .
        refine .inl ⟨b, c, us, he.trans h4, h5, ?_, q9j hA h.hp hb' hg _ _ _ h2 h7⟩; have hi : β'.inn p.1 = β.inn j := by simp only [β', hr]; rfl
        rw [hi]; exact K.mono hA (fun _ _ => rfl) h6
       .
        subst h6; refine .inr ⟨he.trans h4, h5, ?_⟩
        cases bs with
        | nil => rfl
        | cons x r => simp only [AvLe.AvLeL] at h2
      .
       rcases h3 with ⟨b, c, us, h4, h5, h6, h7⟩ | ⟨_, h5, _⟩
       .
        match us, h6, h7 with
        | u1 :: u2 :: us, h6, h7 =>
         simp only [x9, rep] at h7; obtain ⟨rfl, rfl, h7⟩ := h7; exact .inl ⟨b, c, us, he.trans h4, h5, ⟨_, _, h6, .inl rfl, .inl ⟨rfl, rfl⟩⟩, q9j hA h.hp hb' hg _ _ _ h2 h7⟩
       . exact h5.elim
  . intro p hp q hq b c c' h1 h2; obtain ⟨j, o, h3, h4, h5⟩ := hblk p hp b c h1; obtain ⟨j', o', h6, h7, h8⟩ := hblk q hq b c' h2; have := h.hp.inj _ h4 _ h7 b c c' h5 h8; simp only at this; subst this; exact hin.2 p hp q hq j h3 h6
  . intro p hp b c h1; obtain ⟨j, o, h3, h4, h5⟩ := hblk p hp b c h1; exact h.hp.av _ h4 b c h5
  .
   intro p hp hc; refine List.eq_nil_iff_forall_not_mem.2 fun b hb => ?_; have h1 := (qj5 l5 p hp).2; unfold z5d at h1; simp only [β'] at hb
   cases hr : rn p.1 with
   | none => rw [hr] at hb; cases hb
   | some j =>
    rw [hr] at h1 hb; obtain ⟨o, ho, h2⟩ := h1; have ho2 : q94 o = false := by
     cases o <;> cases hp2 : p.2 <;> rw [hp2] at h2 hc <;> first | rfl | exact h2.elim | cases hc
    have := h.hp.i0 _ (q0g ho) ho2; simp only at this; rw [show (some j : Option Nat).elim [] β.inn = β.inn j from rfl, this] at hb
    cases hb
  .
   intro p hp b hb; obtain ⟨j, o, h3, h4, h5⟩ := hbof p hp b (.inr hb); have hb2 : b ∈ β.inn j := by
    simp only [β'] at hb; rw [h3] at hb; exact hb
   obtain ⟨i1, i2, i3, i4⟩ := h.hp.ib _ h4 b hb2; refine ⟨i1, i2, fun q hq c hc => ?_, fun q hq hc => ?_⟩
   . obtain ⟨j', o', _, h7, h8⟩ := hblk q hq b c hc; exact i3 _ h7 c h8
   . obtain ⟨j', o', h6, h7, h8⟩ := hbof q hq b (.inr hc); have := h.hp.bofInj _ h7 _ h4 b h8 h5; simp only at this; subst this; exact (hin.2 p hp q hq _ h3 h6).symm
 .
  refine { nx := by rw [h.nb]; exact l3, gh := ?_, gi := ?_, ids := ?_, blk := ?_, os := h.ext.os, tape := h.ext.tape, output := h.ext.output, size := h.ext.size, keep := h.ext.keep }
  . intro id hid; rw [h.nb] at hid; simp only [β', hfix id hid]; exact h.ext.gh id (by rw [h.nb]; exact hid)
  . intro id hid hni; have hid' := hid; rw [h.nb] at hid'; simp only [β', hfix id hid']; exact h.ext.gi id hid hni
  .
   intro p hp; rcases Yg p.1 C.nx0 with hlt | hge
   . have hlt' := hlt; rw [h.nb] at hlt'; have h1 := (qj5 l5 p hp).2; unfold z5d at h1; rw [hfix _ hlt'] at h1; obtain ⟨o, ho, _⟩ := h1; have := h.ext.ids (p.1, o) (q0g ho); exact this
   . exact .inr hge
  . intro p hp b h1; obtain ⟨j, o, h3, h4, h5⟩ := hbof p hp b h1; exact h.ext.blk _ h4 b h5
end
section
open Go Go.RowKit
def RK {P : Program} (C : Ctx P) (K : St -> Prop) (a : Act) (w : World) : Prop := ∃ s β, Rel C s a w β /\ K s
def q1i (P : Program) (t : TypeId) : Option (List Value) := ((P.info? t).bind (·.zero)).map (·.cells.toList)
def q9b : AV -> Option (List AV)
 | .agg cs => some cs
 | .v x => if x.oneCell' = true then some [.v x] else none
 | .ptr id off => some [.ptr id off]
 | .mp id => some [.mp id]
 | .apt id sz i off => some [.apt id sz i off]
 | .sl sz xs => some [.sl sz xs]
 | .osl id sz off len => some [.osl id sz off len]
 | .el sz xs i off => some [.el sz xs i off]
 | .clo f xs => some [.clo f xs]
 | _ => none
section
variable {P : Program} {C : Ctx P} {s : St} {a : Act} {w : World} {β : Ghost} {nx : Nat} {ow : Nat -> Prop}
theorem q8f {x : AV} {u : Value} {cs : List AV} (h : q9b x = some cs) (hr : rep w β nx ow x u) : x9 w β nx ow cs u.cells.toList := by
 cases x <;> simp only [q9b, Xa, reduceCtorEq] at h
 .
  split at h
  .
   simp only [Xa] at h; subst h; simp only [rep] at hr; subst hr
   rename_i ho
   cases u <;> simp [Value.oneCell'] at ho <;> simp [Value.cells, x9, rep]
  . cases h
 all_goals subst h
 . have h0 := hr; simp only [rep] at hr; obtain ⟨_, b, c, _, rfl⟩ := hr; simp only [Value.cells, x9]; exact ⟨h0, trivial⟩
 . have h0 := hr; simp only [rep] at hr; obtain ⟨_, b, c, _, rfl⟩ := hr; simp only [Value.cells, x9]; exact ⟨h0, trivial⟩
 . have h0 := hr; simp only [rep] at hr; rcases hr with ⟨_, a, c, rfl⟩ | ⟨b, o, cap, rfl, _⟩ <;> simp only [Value.cells, x9] <;> exact ⟨h0, trivial⟩
 . have h0 := hr; simp only [rep] at hr; rcases hr.2 with ⟨_, _, _, rfl⟩ | ⟨b, c, cap, ad, _, rfl, _⟩ <;> simp only [Value.cells, x9] <;> exact ⟨h0, trivial⟩
 . have h0 := hr; simp only [rep] at hr; obtain ⟨b, o, rfl, _⟩ := hr; simp only [Value.cells, x9]; exact ⟨h0, trivial⟩
 . simp only [rep] at hr; obtain ⟨l, rfl, hl⟩ := hr; simpa only [Value.cells] using hl
 . have h0 := hr; simp only [rep] at hr; obtain ⟨l, rfl, hl⟩ := hr; simp only [Value.cells, x9]; exact ⟨h0, trivial⟩
 . have h0 := hr; simp only [rep] at hr; obtain ⟨_, b, c, _, rfl⟩ := hr; simp only [Value.cells, x9]; exact ⟨h0, trivial⟩
theorem qo8 (w : World) (β : Ghost) (nx : Nat) (ow : Nat -> Prop) : ∀ (zs : List Value), x9 w β nx ow (zs.map AV.v) zs
 | [] => by simp [x9]
 | z :: zs => by simp only [Xi, x9, rep]; exact ⟨trivial, qo8 w β nx ow zs⟩
theorem q1u {x : Operand} (h : Rel C s a w β) (hn : (u6 s.env x).need) : rep w β s.nx (own β s.hp C.A) (u6 s.env x).st (a.eval x) := q1b (h.ev x) hn
theorem j3d (h : Rel C s a w β) {o : Oper} {e : TypeId} {zs : List Value} {K : St -> Prop} {Q : Exit -> Act -> World -> Prop} (ho : o.op = .alloc e) (hz : q1i P e = some zs) (hd : dok s.nt o.dst = true)
  (hK : K (({ s with hp := (s.nx, .box (zs.map AV.v)) :: s.hp, nx := s.nx + 1 } : St).put o.dst (.ptr s.nx 0))) : o.wp P a w (RK C K) Q := by
 unfold q1i at hz; simp only [Xd, Xt] at hz; obtain ⟨z, ⟨i, hi, hz⟩, rfl⟩ := hz; have hrun : (execOp a.eval o).run P w = .ok (.value (.pointer (some ⟨w.heap.size, 0, none⟩))) (w.alloc (.cells ⟨z.cells.toList⟩ e)) := by
  unfold execOp; simp only [ho]; simp [Instr.alloc, zeroValue, typeInfo, hi, hz, newVar, newRow]
 unfold Oper.wp; rw [hrun]; have h2 := h.alloc (cs := z.cells.toList) (e := e) (o := .box (z.cells.toList.map AV.v)) (c := 0) (fun w' ow' _ hw' => ⟨w.heap.size, 0, _, e, q1a _ _ _, hw', qo8 _ _ _ _ _⟩); refine ⟨_, _, h2.put ?_ hd, hK⟩; simp only [rep]; exact ⟨Xo _, w.heap.size, 0, q1a _ _ _, rfl⟩
theorem j0y (h : Rel C s a w β) {o : Oper} {e : TypeId} {zs : List Value} {K : St -> Prop} {Q : Exit -> Act -> World -> Prop} (ho : o.op = .alloc e) (hz : q1i P e = some zs) (hd : dok s.nt o.dst = true)
  (hK : K (({ s with hp := (s.nx, .con (z1w e) (zs.map AV.v)) :: s.hp, nx := s.nx + 1 } : St).put o.dst (.ptr s.nx 0))) : o.wp P a w (RK C K) Q := by
 unfold q1i at hz; simp only [Xd, Xt] at hz; obtain ⟨z, ⟨i, hi, hz⟩, rfl⟩ := hz; have hrun : (execOp a.eval o).run P w = .ok (.value (.pointer (some ⟨w.heap.size, 0, none⟩))) (w.alloc (.cells ⟨z.cells.toList⟩ e)) := by
  unfold execOp; simp only [ho]; simp [Instr.alloc, zeroValue, typeInfo, hi, hz, newVar, newRow]
 unfold Oper.wp; rw [hrun]; have h2 := h.alloc (cs := z.cells.toList) (e := e) (o := .con (z1w e) (z.cells.toList.map AV.v)) (c := 0) (fun w' ow' _ hw' => .inl ⟨w.heap.size, 0, _, q1a _ _ _, (Xl.1 hw').1, hw', qo8 _ _ _ _ _⟩); refine ⟨_, _, h2.put ?_ hd, hK⟩; simp only [rep]; exact ⟨Xo _, w.heap.size, 0, q1a _ _ _, rfl⟩
theorem j82 (h : Rel C s a w β) {o : Oper} {e : TypeId} {x : Operand} {cs : List AV} {K : St -> Prop} {Q : Exit -> Act -> World -> Prop} (ho : o.op = .box e x) (hx : (u6 s.env x).need) (hz : q9b (u6 s.env x).st = some cs) (hd : dok s.nt o.dst = true)
  (hK : K (({ s with hp := (s.nx, .box cs) :: s.hp, nx := s.nx + 1 } : St).put o.dst (.ptr s.nx 0))) : o.wp P a w (RK C K) Q := by
 have hc := q8f hz (q1u h hx); have hrun : (execOp a.eval o).run P w = .ok (.value (.pointer (some ⟨w.heap.size, 0, none⟩))) (w.alloc (.cells ⟨(a.eval x).cells.toList⟩ e)) := by
  unfold execOp; simp only [ho]; simp [Instr.box, newVar, newRow]
 unfold Oper.wp; rw [hrun]; have h2 := h.alloc (cs := (a.eval x).cells.toList) (e := e) (o := .box cs) (c := 0) (fun w' ow' hA hw' => ⟨w.heap.size, 0, _, e, q1a _ _ _, hw', q1h hA _ _ (X0 _) (fun id hid => q2j _ _ _ _ hid) _ _ hc⟩); refine ⟨_, _, h2.put ?_ hd, hK⟩; simp only [rep]; exact ⟨Xo _, w.heap.size, 0, q1a _ _ _, rfl⟩
theorem j6a (h : Rel C s a w β) {o : Oper} {e : TypeId} {x : Operand} {cs : List AV} {K : St -> Prop} {Q : Exit -> Act -> World -> Prop} (ho : o.op = .box e x) (hx : (u6 s.env x).need) (hz : q9b (u6 s.env x).st = some cs) (hd : dok s.nt o.dst = true)
  (hK : K (({ s with hp := (s.nx, .con (z1w e) cs) :: s.hp, nx := s.nx + 1 } : St).put o.dst (.ptr s.nx 0))) : o.wp P a w (RK C K) Q := by
 have hc := q8f hz (q1u h hx); have hrun : (execOp a.eval o).run P w = .ok (.value (.pointer (some ⟨w.heap.size, 0, none⟩))) (w.alloc (.cells ⟨(a.eval x).cells.toList⟩ e)) := by
  unfold execOp; simp only [ho]; simp [Instr.box, newVar, newRow]
 unfold Oper.wp; rw [hrun]; have h2 := h.alloc (cs := (a.eval x).cells.toList) (e := e) (o := .con (z1w e) cs) (c := 0) (fun w' ow' hA hw' => .inl ⟨w.heap.size, 0, _, q1a _ _ _, (Xl.1 hw').1, hw', q1h hA _ _ (X0 _) (fun id hid => q2j _ _ _ _ hid) _ _ hc⟩); refine ⟨_, _, h2.put ?_ hd, hK⟩; simp only [rep]; exact ⟨Xo _, w.heap.size, 0, q1a _ _ _, rfl⟩
end
end
section
open Go Go.RowKit
def q41 : Hp -> Nat -> Hp
 | [], _ => []
 | (k, o) :: r, id => if k = id then q41 r id else (k, o) :: q41 r id
def q5u : List Nat -> Hp -> Hp
 | [], hp => hp
 | i :: is, hp => q5u is (q41 hp i)
def q75 : List AV -> List Nat
 | [] => []
 | .osl id _ _ _ :: r => id :: q75 r
 | _ :: r => q75 r
def frz (hp : Hp) : AV -> AV
 | .osl id sz off len => match q0e hp id with
  | some (.arr _ xs) => .sl sz ((xs.drop off).take len)
  | _ => .osl id sz off len
 | a => a
def qq9 (hp : Hp) : List AV -> Prop
 | [] => True
 | .osl id sz off len :: r => (match q0e hp id with
  | some (.arr sz' xs) => sz' = sz /\ off + len <= xs.length
  | _ => False) /\ qq9 hp r
 | _ :: r => qq9 hp r
theorem qt7 {p : Nat × AObj} {id : Nat} : ∀ {hp : Hp}, p ∈ q41 hp id ↔ p ∈ hp /\ p.1 ≠ id
 | [] => by simp [q41]
 | (k, o) :: r => by
  unfold q41
  split
  .
   rename_i hk
   subst hk; rw [qt7]
   constructor
   . rintro ⟨h1, h2⟩; exact ⟨Xj _ h1, h2⟩
   .
    rintro ⟨h1, h2⟩; rcases Xc.1 h1 with rfl | h1
    . exact absurd rfl h2
    . exact ⟨h1, h2⟩
  .
   rename_i hk
   simp only [Xc, qt7]
   constructor
   .
    rintro (rfl | ⟨h1, h2⟩)
    . exact ⟨.inl rfl, hk⟩
    . exact ⟨.inr h1, h2⟩
   .
    rintro ⟨rfl | h1, h2⟩
    . exact .inl rfl
    . exact .inr ⟨h1, h2⟩
theorem qv1 {p : Nat × AObj} : ∀ {ids : List Nat} {hp : Hp}, p ∈ q5u ids hp ↔ p ∈ hp /\ p.1 ∉ ids
 | [], hp => by simp [q5u]
 | i :: is, hp => by simp only [q5u, qv1, qt7, Xc, not_or, and_assoc]
theorem sub_delO {id : Nat} : ∀ {hp : Hp}, (q41 hp id).Sublist hp
 | [] => by simp [q41]
 | (k, o) :: r => by
  unfold q41
  split
  . exact (sub_delO).cons _
  . exact (sub_delO).cons_cons _
theorem q7x : ∀ {ids : List Nat} {hp : Hp}, (q5u ids hp).Sublist hp
 | [], _ => List.Sublist.refl _
 | i :: is, hp => (q7x (ids := is) (hp := q41 hp i)).trans sub_delO
section
variable {P : Program} {C : Ctx P} {s : St} {a : Act} {w : World} {β : Ghost} {nx : Nat} {A : Nat -> Prop} {hp : Hp}
theorem zu0 {hp' : Hp} (hs : hp'.Sublist hp) {b : Nat} (h : own β hp' A b) : own β hp A b := by
 rcases h with h | ⟨p, hp, h⟩
 . exact .inl h
 . exact .inr ⟨p, hs.subset hp, h⟩
theorem z4z {hp' : Hp} (hs : hp'.Sublist hp) : Agree w w (own β hp A) (own β hp' A) := ⟨Xe _, fun _ hb _ => ⟨rfl, fun h => hb (zu0 hs h)⟩⟩
theorem HpRel.sub {hp' : Hp} (h : HpRel w β nx A hp) (hs : hp'.Sublist hp) : HpRel w β nx A hp' where
 obj p hp := q3m (z4z hs) (Xe _) (fun _ _ => rfl) (h.lt p (hs.subset hp)) (fun _ _ => rfl) (fun _ => rfl) (h.obj p (hs.subset hp))
 lt p hp := h.lt p (hs.subset hp)
 nd := (hs.map _).nodup h.nd
 inj p hp q hq := h.inj p (hs.subset hp) q (hs.subset hq)
 av p hp := h.av p (hs.subset hp)
 i0 p hp := h.i0 p (hs.subset hp)
 ib p hp b hb := by
  obtain ⟨h1, h2, h3, h4⟩ := h.ib p (hs.subset hp) b hb; exact ⟨h1, h2, fun q hq => h3 q (hs.subset hq), fun q hq => h4 q (hs.subset hq)⟩
theorem Rel.sub {hp' : Hp} (h : Rel C s a w β) (hs : hp'.Sublist s.hp) : Rel C { s with hp := hp' } a w β :=
 h.step (Xe _) (fun _ _ => rfl) (Xe _) (fun _ _ _ => rfl) (fun _ _ ⟨q, hq, hc⟩ => ⟨q, hs.subset hq, hc⟩) (h.hp.sub hs) (fun _ hp => .inl (Xk (hs.subset hp))) rfl rfl ⟨rfl, fun _ => Xe _⟩
theorem z4o (hhp : HpRel w β nx A hp) {hp' : Hp} (hs : hp'.Sublist hp) : ∀ {cs : List AV} {us : List Value}, (∀ i ∈ q75 cs, ∀ o, (i, o) ∉ hp') -> qq9 hp cs -> x9 w β nx (own β hp A) cs us -> x9 w β nx (own β hp' A) (cs.map (frz hp)) us
 | [], [], _, _, _ => by simp [x9]
 | x :: xs, u :: us, hi, hf, hr => by
  simp only [x9, Xi] at hr ⊢; have hf' : qq9 hp xs := by cases x <;> simp only [qq9] at hf <;> first | exact hf | exact hf.2
  have hi' : ∀ i ∈ q75 xs, ∀ o, (i, o) ∉ hp' := fun i hm => hi i (by cases x <;> simp only [q75] <;> first | exact hm | exact Xj _ hm); refine ⟨?_, z4o hhp hs hi' hf' hr.2⟩; have keep : ∀ y, rep w β nx (own β hp A) y u -> rep w β nx (own β hp' A) y u := fun y hy => q4v (z4z hs) nx nx (Xe _) (fun _ _ => rfl) y u hy
  cases x with
  | osl id sz off len =>
   simp only [frz]; simp only [qq9] at hf
   cases hg : q0e hp id with
   | none => exact keep _ hr.1
   | some o =>
    cases o with
    | box cs => exact keep _ hr.1
    | con K cs => exact keep _ hr.1
    | arr sz' ys =>
     rw [hg] at hf; obtain ⟨⟨rfl, hlen⟩, _⟩ := hf; refine q2o (rn := some) (gone := fun j => ∀ o, (j, o) ∉ hp') (nx' := nx) (z4z hs) hhp (fun _ _ => rfl) ?_ (.osl id sz' off len) _ u ?_ hr.1
     .
      rintro j hj o ho b c hbc (hx | ⟨p, hp1, hbc'⟩)
      . exact hhp.av _ ho b c hbc hx
      . have := hhp.bofInj _ ho _ (hs.subset hp1) b (.inl ⟨c, hbc⟩) hbc'; simp only at this; subst this; exact hj p.2 hp1
     . simp only [AvLe]; exact ⟨trivial, hi id (by simp [q75]), ys, hg, hlen, rfl⟩
  | _ => exact keep _ hr.1
 | [], _ :: _, _, _, h => by simp only [x9] at h
 | _ :: _, [], _, _, h => by simp only [x9] at h
def q0o : Hp -> Nat -> AObj -> Hp
 | [], _, _ => []
 | (k, o) :: r, id, o' => if k = id then (k, o') :: r else (k, o) :: q0o r id o'
theorem q93 {id : Nat} {o' : AObj} : ∀ {hp : Hp}, (q0o hp id o').map (·.1) = hp.map (·.1)
 | [] => rfl
 | (k, o) :: r => by
  unfold q0o
  split
  . rfl
  . simp [q93]
theorem qh4 {id : Nat} {o' : AObj} {p : Nat × AObj} : ∀ {hp : Hp}, (hp.map (·.1)).Nodup -> p ∈ q0o hp id o' -> p = (id, o') \/ (p ∈ hp /\ p.1 ≠ id)
 | [], _, h => by simp [q0o] at h
 | (k, o) :: r, hn, h => by
  simp only [Xi, Yh] at hn; unfold q0o at h
  split at h
  .
   rename_i hk
   subst hk; rcases Xc.1 h with rfl | h
   . exact .inl rfl
   . exact .inr ⟨Xj _ h, fun he => hn.1 (by rw [<- he]; exact Xk h)⟩
  .
   rename_i hk
   rcases Xc.1 h with rfl | h
   . exact .inr ⟨Xu, hk⟩
   .
    rcases qh4 hn.2 h with h | ⟨h1, h2⟩
    . exact .inl h
    . exact .inr ⟨Xj _ h1, h2⟩
theorem q9d {id : Nat} {o' : AObj} {p : Nat × AObj} {hp : Hp} (h : p ∈ q0o hp id o') : ∃ q ∈ hp, q.1 = p.1 := by
 have : p.1 ∈ (q0o hp id o').map (·.1) := Xk h; rw [q93] at this; obtain ⟨q, h1, h2⟩ := X3.1 this; exact ⟨q, h1, h2⟩
theorem zd9 {id : Nat} {o' : AObj} {q : Nat × AObj} {hp : Hp} (h : q ∈ hp) : ∃ p ∈ q0o hp id o', p.1 = q.1 := by
 have : q.1 ∈ (q0o hp id o').map (·.1) := by rw [q93]; exact Xk h
 obtain ⟨p, h1, h2⟩ := X3.1 this; exact ⟨p, h1, h2⟩
theorem j41 {id : Nat} {o' : AObj} : own β (q0o hp id o') A = own β hp A := by
 funext b
 apply propext
 constructor
 .
  rintro (h | ⟨p, hp1, hc⟩)
  . exact .inl h
  . obtain ⟨q, h1, h2⟩ := q9d hp1; exact .inr ⟨q, h1, by rw [h2]; exact hc⟩
 .
  rintro (h | ⟨p, hp1, hc⟩)
  . exact .inl h
  . obtain ⟨q, h1, h2⟩ := zd9 (id := id) (o' := o') hp1; exact .inr ⟨q, h1, by rw [h2]; exact hc⟩
theorem j2t {id : Nat} {o' : AObj} {b : Nat} : blks β (q0o hp id o') b ↔ blks β hp b := by
 constructor
 . rintro ⟨p, hp1, hc⟩; obtain ⟨q, h1, h2⟩ := q9d hp1; exact ⟨q, h1, by rw [h2]; exact hc⟩
 . rintro ⟨p, hp1, hc⟩; obtain ⟨q, h1, h2⟩ := zd9 (id := id) (o' := o') hp1; exact ⟨q, h1, by rw [h2]; exact hc⟩
theorem Rel.write (h : Rel C s a w β) {id b c : Nat} {o o' : AObj} {cur' : Array Value} (hg : q0e s.hp id = some o) (hb : β id = some (b, c))
  (ho : ∀ w', Agree w w' (own β s.hp C.A) (own β s.hp C.A) -> (w.setRow b cur') = w' -> q5f w' β s.nx (own β s.hp C.A) id o') (hoc : q94 o' = q94 o := by rfl) :
  Rel C { s with hp := q0o s.hp id o' } a (w.setRow b cur') β := by
 have hm := q0g hg; have hbb := q6s (p := (id, o)) hm hb; have hA : Agree w (w.setRow b cur') (own β s.hp C.A) (own β s.hp C.A) := ⟨by simp, fun b' hb' _ => ⟨setRow_other w b b' cur' (fun e => hb' (.inr (e ▸ hbb))), hb'⟩⟩; refine h.step (Xe _) (fun _ _ => rfl) (by simp) (fun b' _ hb' => setRow_other w b b' cur' (fun e => hb' (e ▸ hbb))) (fun b' _ hb' => j2t.1 hb') ?_ (fun p hp => by
  obtain ⟨q, h1, h2⟩ := q9d hp; exact .inl (by rw [<- h2]; exact Xk h1)) rfl rfl ⟨rfl, fun _ => Xe _⟩
 refine ⟨?_, ?_, by rw [q93]; exact h.hp.nd, ?_, ?_, ?_, ?_⟩
 .
  intro p hp; rw [j41]; rcases qh4 h.hp.nd hp with rfl | ⟨h1, h2⟩
  . exact ho _ hA rfl
  . refine q3m hA (Xe _) (fun _ _ => rfl) (h.hp.lt p h1) (fun b' hbc => setRow_other w b b' cur' (fun e => h2 ?_)) (fun _ => rfl) (h.hp.obj p h1); subst e; exact h.hp.bofInj p h1 _ hm b' hbc (.inl ⟨c, hb⟩)
 . intro p hp; obtain ⟨q, h1, h2⟩ := q9d hp; rw [<- h2]; exact h.hp.lt q h1
 . intro p hp q hq b' c1 c2 h1 h2; obtain ⟨p', h3, h4⟩ := q9d hp; obtain ⟨q', h5, h6⟩ := q9d hq; rw [<- h4] at h1 ⊢; rw [<- h6] at h2 ⊢; exact h.hp.inj p' h3 q' h5 b' c1 c2 h1 h2
 . intro p hp b' c1 h1; obtain ⟨q, h2, h3⟩ := q9d hp; rw [<- h3] at h1; exact h.hp.av q h2 b' c1 h1
 .
  intro p hp hc; rcases qh4 h.hp.nd hp with rfl | ⟨h1, h2⟩
  . exact h.hp.i0 (id, o) hm (hoc ▸ hc)
  . exact h.hp.i0 p h1 hc
 .
  intro p hp b' hb'; obtain ⟨q, h2, h3⟩ := q9d hp; rw [<- h3] at hb' ⊢; obtain ⟨i1, i2, i3, i4⟩ := h.hp.ib q h2 b' hb'; refine ⟨by simpa using i1, i2, fun r hr => ?_, fun r hr => ?_⟩
  . obtain ⟨r', h4, h5⟩ := q9d hr; rw [<- h5]; exact i3 r' h4
  . obtain ⟨r', h4, h5⟩ := q9d hr; rw [<- h5]; exact i4 r' h4
end
end
section
open Go Go.RowKit
def q69 (cs : List AV) (off : Nat) (ys : List AV) : List AV := cs.take off ++ ys ++ cs.drop (off + ys.length)
section
variable {P : Program} {C : Ctx P} {s : St} {a : Act} {w : World} {β : Ghost} {nx : Nat} {A : Nat -> Prop} {hp : Hp} {ow : Nat -> Prop}
theorem qv9 {cs ys : List AV} {us vs : List Value} {off : Nat} (h : x9 w β nx ow cs us) (h' : x9 w β nx ow ys vs) : x9 w β nx ow (q69 cs off ys) (us.take off ++ vs ++ us.drop (off + vs.length)) := by
 unfold q69; rw [q1f h']; exact q5g (q5g (q64 h off) h') (q74 h _)
theorem ze5 (off : Nat) : ∀ (l : List Value) (k : Nat) (cells : Array Value), off + k + l.length <= cells.size ->
  ((l.zipIdx k).foldl (fun cs (p : Value × Nat) => cs.setIfInBounds (off + p.2) p.1) cells).toList = cells.toList.take (off + k) ++ l ++ cells.toList.drop (off + k + l.length)
 | [], k, cells, _ => by simp
 | v :: l, k, cells, h => by
  simp only [Ym] at h; simp only [List.zipIdx_cons, List.foldl_cons]; rw [ze5 off l (k + 1) _ (by simp; omega), Array.toList_setIfInBounds]; have := list_seg_step cells.toList (off + k) v l (by simp; omega); rw [show off + (k + 1) = off + k + 1 by omega, this]; simp [Yj]
theorem ze7 {pl : Nat -> Option (Nat × Nat)} {cells : Array Value} {i off n : Nat} {v : Value} {rest : List (Nat × Value)} (hp : pl i = some (off, n)) (h1 : v.cells.size = n) (h2 : off + v.cells.size <= cells.size) :
  Instr.fill pl cells ((i, v) :: rest) = Instr.fill pl ⟨cells.toList.take off ++ v.cells.toList ++ cells.toList.drop (off + v.cells.size)⟩ rest := by
 rw [Instr.fill]; simp only [hp]; rw [if_neg (by simp; omega)]
 congr 1
 apply Xr; have := ze5 off v.cells.toList 0 cells (by simpa using h2); simp only [Yv, X7] at this; rw [<- this, <- Array.foldl_toList]; simp
def z5q (pl : Nat -> Option (Nat × Nat)) : List AV -> List (Nat × AV) -> Option (Prop × List AV)
 | cs, [] => some (True, cs)
 | cs, (i, x) :: r => match pl i, q9b x with
  | some (off, n), some ys => (z5q pl (q69 cs off ys) r).map fun p => ((ys.length = n /\ off + ys.length <= cs.length) /\ p.1, p.2)
  | _, _ => none
def z4f (w : World) (β : Ghost) (nx : Nat) (ow : Nat -> Prop) : List (Nat × AV) -> List (Nat × Value) -> Prop
 | [], [] => True
 | (i, x) :: r, (j, u) :: q => i = j /\ rep w β nx ow x u /\ z4f w β nx ow r q
 | _, _ => False
theorem z6h {pl : Nat -> Option (Nat × Nat)} : ∀ {ps : List (Nat × AV)} {vs : List (Nat × Value)} {cs r : List AV} {us : List Value} {c : Prop}, z5q pl cs ps = some (c, r) -> c -> x9 w β nx ow cs us -> z4f w β nx ow ps vs ->
  ∃ us', Instr.fill pl ⟨us⟩ vs = some ⟨us'⟩ /\ x9 w β nx ow r us'
 | [], [], cs, r, us, c, h, _, hr, _ => by
  simp only [z5q, Xa, Xb] at h; obtain ⟨_, rfl⟩ := h; exact ⟨us, by simp [Instr.fill], hr⟩
 | (i, x) :: ps, (j, u) :: vs, cs, r, us, c, h, hc, hr, hp => by
  simp only [z4f] at hp; obtain ⟨rfl, hx, hp⟩ := hp; unfold z5q at h
  split at h
  .
   rename_i off n ys hpl hys
   simp only [Xd, Xb] at h; obtain ⟨⟨c', r'⟩, h1, rfl, rfl⟩ := h; obtain ⟨⟨h2, h3⟩, hc'⟩ := hc; have h4 := q8f hys hx; have h5 := q1f h4; have h6 := q1f hr; obtain ⟨us', h7, h8⟩ := z6h h1 hc' (qv9 (off := off) hr h4) hp; refine ⟨us', ?_, h8⟩; rw [ze7 hpl (by simp at h5; omega) (by simp at h5 ⊢; omega)]
   simpa using h7
  . cases h
 | [], _ :: _, _, _, _, _, _, _, _, hp => by simp only [z4f] at hp
 | _ :: _, [], _, _, _, _, _, _, _, hp => by simp only [z4f] at hp
def q57 (P : Program) (t : TypeId) : Option (List (Nat × Nat)) := match P.underlying t with
 | some (.struct fs) => fs.toList.mapM fun f => (P.info? f.type).map fun i => (f.offset, i.size)
 | some (.array n e) => if (P.info? e).isSome = true then some ((Yy n).map fun i => (i * szT P e, szT P e)) else none
 | _ => none
def z4w (P : Program) (ev : Operand -> AV) (t : TypeId) (parts : List (Nat × Operand)) : Option (Prop × AV) :=
 match q1i P t, q57 P t with
 | some zs, some pl => (z5q (pl[·]?) (zs.map AV.v) (parts.map fun p => (p.1, (ev p.2).st))).map fun p => ((q5c P t = true /\ q12 P t = true /\ needs (parts.map fun p => ev p.2)) /\ p.1, .agg p.2)
 | _, _ => none
theorem zj7 {ev : Operand -> AV} {ρ : Operand -> Value} (hev : ∀ x, rep w β nx ow (ev x) (ρ x)) : ∀ (xs : List (Nat × Operand)), needs (xs.map fun p => ev p.2) -> z4f w β nx ow (xs.map fun p => (p.1, (ev p.2).st)) (xs.map fun p => (p.1, ρ p.2))
 | [], _ => by simp [z4f]
 | x :: xs, h => by
  simp only [Xi, needs] at h; simp only [Xi, z4f]; exact ⟨trivial, q1b (hev x.2) h.1, zj7 hev xs h.2⟩
theorem z6g {pl pl' : Nat -> Option (Nat × Nat)} : ∀ {vs : List (Nat × Value)} {cells r : Array Value}, (∀ i x, pl i = some x -> pl' i = some x) -> Instr.fill pl cells vs = some r -> Instr.fill pl' cells vs = some r
 | [], cells, r, _, h => by simpa [Instr.fill] using h
 | (i, v) :: vs, cells, r, hp, h => by
  rw [Instr.fill] at h ⊢
  cases hi : pl i with
  | none => simp [hi] at h
  | some x =>
   rw [hp i x hi]; simp only [hi] at h ⊢
   split at h
   . cases h
   .
    rename_i hn
    rw [if_neg hn]; exact z6g hp h
theorem zo8 {ev : Operand -> AV} {ρ : Operand -> Value} (hev : ∀ x, rep w β nx ow (ev x) (ρ x)) {t : TypeId} {parts : Array (Nat × Operand)} {c : Prop} {r : AV} (h : z4w P ev t parts.toList = some (c, r)) (hc : c) :
  ∃ z, (Instr.build t (parts.map fun (i, x) => (i, ρ x))).run P w = .ok z w /\ rep w β nx ow r z := by
 unfold z4w at h
 split at h
 .
  rename_i zs pl hz hpl
  simp only [Xd, Xb] at h; obtain ⟨⟨c', r'⟩, h1, rfl, rfl⟩ := h; obtain ⟨⟨c1, c2, c3⟩, hc'⟩ := hc; obtain ⟨us', h2, h3⟩ := z6h h1 hc' (qo8 w β nx ow zs) (zj7 hev _ c3); refine ⟨.agg ⟨us'⟩, ?_, by simp only [rep]; exact ⟨us', rfl, h3⟩⟩; unfold q1i at hz; simp only [Xd, Xt] at hz; obtain ⟨z, ⟨i, hi, hz⟩, rfl⟩ := hz; apply run_build; have hparts : (parts.map fun (i, x) => (i, ρ x)).toList = parts.toList.map fun p => (p.1, ρ p.2) := by simp
  rw [hparts]; unfold Program.built; simp only [hi]; unfold q57 at hpl
  split at hpl
  .
   rename_i fs hd
   simp only [hd, hz, hpl]; rw [show (fun x => pl.toArray[x]?) = (fun x => pl[x]?) from funext fun x => by simp]; exact h2
  .
   rename_i n e hd
   split at hpl
   case isFalse => cases hpl
   rename_i hsome
   simp only [Xa] at hpl; subst hpl; simp only [hd, hz]
   cases hie : P.info? e with
   | none => rw [hie] at hsome; cases hsome
   | some ie =>
    simp only; have hsz : szT P e = ie.size := by simp [szT, hie]
    refine z6g ?_ h2; intro j x hj; simp only [Yc, Xd] at hj; obtain ⟨k, hk, rfl⟩ := hj; rw [List.getElem?_range] at hk
    . simp only [Xa] at hk; rw [<- hk, hsz]
    .
     rcases Yg j n with hjn | hjn
     . exact hjn
     . rw [Yq (by simpa using hjn)] at hk; cases hk
  . cases hpl
 . cases h
end
def zy8 : Option Nat -> AV -> AV
 | some sz, .v (.slice none 0 0) => .sl sz []
 | _, a => a
def q1l : List (Option Nat) -> List AV -> List AV
 | n :: ns, a :: as => zy8 n a :: q1l ns as
 | _, as => as
def zy7 (P : Program) : Nat -> TypeId -> List (Option Nat)
 | 0, _ => []
 | n + 1, t => match P.underlying t with
  | some (.slice e) => [some (szT P e)]
  | some (.struct fs) => fs.toList.flatMap fun f => zy7 P n f.type
  | some (.array k e) => (List.replicate k (zy7 P n e)).flatten
  | _ => List.replicate (szT P t) none
def q8k (P : Program) (t : TypeId) : List (Option Nat) := zy7 P 9 t
def qv0 (hp : Hp) (P : Program) (t : TypeId) : List (Option Nat) := match hp with
 | (_, .con K _) :: _ => if K.raw = true then [] else q8k P t
 | _ => q8k P t
theorem j1w {P : Program} {t : TypeId} : qv0 [] P t = q8k P t := rfl
theorem j1y {P : Program} {t : TypeId} {i : Nat} {cs : List AV} {r : Hp} : qv0 ((i, .box cs) :: r) P t = q8k P t := rfl
theorem j1z {P : Program} {t : TypeId} {i n : Nat} {xs : List (List AV)} {r : Hp} : qv0 ((i, .arr n xs) :: r) P t = q8k P t := rfl
theorem j1x {P : Program} {t : TypeId} {i : Nat} {K : Con} {ex : List AV} {r : Hp} : qv0 ((i, .con K ex) :: r) P t = if K.raw = true then [] else q8k P t := rfl
section
variable {w : World} {β : Ghost} {nx : Nat} {ow : Nat -> Prop}
theorem j3y {n : Option Nat} {a : AV} {u : Value} (h : rep w β nx ow a u) : rep w β nx ow (zy8 n a) u := by
 unfold zy8
 split
 . simp only [rep] at h ⊢; exact .inl ⟨trivial, none, 0, h⟩
 . exact h
theorem z0d : ∀ {ns : List (Option Nat)} {as : List AV} {us : List Value}, x9 w β nx ow as us -> x9 w β nx ow (q1l ns as) us
 | [], as, us, h => by simpa only [q1l] using h
 | n :: ns, [], us, h => by simpa only [q1l] using h
 | n :: ns, a :: as, [], h => by simp only [x9] at h
 | n :: ns, a :: as, u :: us, h => by
  simp only [x9, q1l] at h ⊢; exact ⟨j3y h.1, z0d h.2⟩
theorem q9e : ∀ {ns : List (Option Nat)} {as : List AV}, (q1l ns as).length = as.length
 | [], as => by simp only [q1l]
 | n :: ns, [] => by simp only [q1l]
 | n :: ns, a :: as => by simp only [q1l, Ym, q9e]
theorem q8s {ns : List (Option Nat)} : ∀ {rs : List (List AV)} {us : List Value}, x9 w β nx ow rs.flatten us -> x9 w β nx ow (rs.map (q1l ns)).flatten us
 | [], us, h => by simpa using h
 | r :: rs, us, h => by
  simp only [Xx, Xi] at h ⊢; have h1 := q64 h r.length; have h2 := q74 h r.length; rw [List.take_left] at h1; rw [List.drop_left] at h2; have := q5g (z0d (ns := ns) h1) (q8s (ns := ns) h2)
  rwa [List.take_append_drop] at this
end
end
section
open Go Go.RowKit
section
variable {P : Program} {C : Ctx P} {s : St} {a : Act} {w : World} {β : Ghost} {nx : Nat} {A : Nat -> Prop} {hp : Hp} {ow : Nat -> Prop}
theorem z0a {t : TypeId} {b off : Nat} {cur : Array Value} {e : TypeId} {u : Value} (ht : q12 P t = true) (hg : w.heap[b]? = some (.cells cur e (0, 0))) (h1 : u.cells.size = szT P t) (h2 : off + u.cells.size <= cur.size)
  (h3 : ∀ v ∈ u.cells.toList, v.oneCell' = true) :
  (storeVar t ⟨b, off, none⟩ u).run P w = .ok () (w.setRow b ⟨cur.toList.take off ++ u.cells.toList ++ cur.toList.drop (off + u.cells.toList.length)⟩) := by
 unfold storeVar; have := run_storeCells_at P b off e u.cells.toList 0 cur w hg (by simpa using h2) h3; simp only [Sem.run_bind, run_sizeOf ht, Result.andThen_ok, Sem.run_ite]; rw [if_neg (by simp [h1])]
 simpa using this
theorem j39 (h : Rel C s a w β) {o : Oper} {t : TypeId} {x y : Operand} {id off : Nat} {cs ys : List AV} {K : St -> Prop} {Q : Exit -> Act -> World -> Prop} (ho : o.op = .store t x y) (hxn : (u6 s.env x).need) (hyn : (u6 s.env y).need)
  (hx : (u6 s.env x).st = .ptr id off) (hg : q0e s.hp id = some (.box cs)) (hy : q9b (u6 s.env y).st = some ys) (h1 : q12 P t = true) (h2 : ys.length = szT P t) (h3 : off + ys.length <= cs.length) (h4 : ys.all q8n = true) (hd : dok s.nt o.dst = true)
  (hK : K (({ s with hp := q0o s.hp id (.box (q69 cs off ys)) } : St).put o.dst (.v undef))) : o.wp P a w (RK C K) Q := by
 have hxr := q1u h hxn; rw [hx] at hxr; simp only [rep] at hxr; obtain ⟨hlt, b, c, hb, hxv⟩ := hxr; have hyr := q8f hy (q1u h hyn); have hlen := q1f hyr; obtain ⟨b', c', cur, e, h5, h6, h7⟩ := h.hp.obj _ (q0g hg); simp only at h5; rw [hb] at h5; simp only [Xa, Xb] at h5; obtain ⟨rfl, rfl⟩ := h5; have hcl := q1f h7; have hrun : (execOp a.eval o).run P w = .ok .skip (w.setRow b ⟨cur.toList.take off ++ (a.eval y).cells.toList ++ cur.toList.drop (off + (a.eval y).cells.toList.length)⟩) := by
  unfold execOp; simp only [ho, hxv]; have := z0a (P := P) (off := off) (u := a.eval y) h1 h6 (by simp at hlen; omega) (by simp at hlen hcl; omega) (q6w h4 hyr); simp [Instr.storeAt, Instr.sureAddr, this]
 unfold Oper.wp; rw [hrun]; have h8 := h.write (cur' := ⟨cur.toList.take off ++ (a.eval y).cells.toList ++ cur.toList.drop (off + (a.eval y).cells.toList.length)⟩) (o' := .box (q69 cs off ys)) hg hb (fun w' hA hw' =>
  ⟨b, c, _, e, hb, by rw [<- hw']; exact setRow_heap w b cur _ e (0, 0) h6, qv9 (q1h hA _ _ (Xe _) (fun _ _ => rfl) _ _ h7) (q1h hA _ _ (Xe _) (fun _ _ => rfl) _ _ hyr)⟩)
 exact ⟨_, _, h8.put (by simp only [rep]) hd, hK⟩
theorem z7p (h : Rel C s a w β) {o : Oper} {t : TypeId} {x y : Operand} {id off n b c : Nat} {k : Con} {cs ys : List AV} {K : St -> Prop} {Q : Exit -> Act -> World -> Prop} (ho : o.op = .store t x y) (hyn : (u6 s.env y).need)
  (hb : β id = some (b, c)) (hxv : a.eval x = .pointer (some ⟨b, n + off, none⟩)) (hk : k.k = some n) (hg : q0e s.hp id = some (.con k cs)) (hy : q9b (u6 s.env y).st = some ys) (h1 : q12 P t = true) (h2 : ys.length = szT P t) (h3 : off + ys.length <= cs.length) (h4 : ys.all q8n = true) (hd : dok s.nt o.dst = true)
  (hK : K (({ s with hp := q0o s.hp id (.con k (q69 cs off ys)) } : St).put o.dst (.v undef))) : o.wp P a w (RK C K) Q := by
 have hyr := q8f hy (q1u h hyn); have hlen := q1f hyr; rcases h.hp.obj _ (q0g hg) with ⟨b', c', us, h5, hbl, h6, h7⟩ | ⟨h5, _⟩
 rotate_left
 . simp only at h5; rw [hb] at h5; cases h5
 simp only at h5; rw [hb] at h5; simp only [Xa, Xb] at h5; obtain ⟨rfl, rfl⟩ := h5; have hcl := q1f h7; obtain ⟨hd', tl, T, hl, hcs⟩ := k.cells hk h6; have hno2 : ∀ b1 ∈ β.inn id, b1 ≠ b := fun b1 hb1 e => (h.hp.ib _ (q0g hg) b1 hb1).2.2.1 _ (q0g hg) c (by rw [e]; exact hb); have hcl2 : (⟨hd' ++ us ++ tl⟩ : Array Value).toList.length = n + us.length + tl.length := by show (hd' ++ us ++ tl).length = _; rw [Xg, Xg, hl]
 have hrun : (execOp a.eval o).run P w = .ok .skip (w.setRow b ⟨(hd' ++ us ++ tl).take (n + off) ++ (a.eval y).cells.toList ++ (hd' ++ us ++ tl).drop (n + off + (a.eval y).cells.toList.length)⟩) := by
  unfold execOp; simp only [ho, hxv]; have := z0a (P := P) (off := n + off) (u := a.eval y) h1 hcs (by simp at hlen; omega) (by simp at hlen hcl hcl2 ⊢; omega) (q6w h4 hyr); simp [Instr.storeAt, Instr.sureAddr, this]
 have hus : off + (a.eval y).cells.toList.length <= us.length := by omega
 have hlist : (hd' ++ us ++ tl).take (n + off) ++ (a.eval y).cells.toList ++ (hd' ++ us ++ tl).drop (n + off + (a.eval y).cells.toList.length) = hd' ++ (us.take off ++ (a.eval y).cells.toList ++ us.drop (off + (a.eval y).cells.toList.length)) ++ tl := by
  rw [Yb hd' us tl, List.take_append, List.take_of_length_le (by omega : hd'.length <= n + off), List.drop_append, List.drop_eq_nil_of_le (by omega : hd'.length <= n + off + _), hl, X8, Yn, show n + off + (a.eval y).cells.toList.length - n = off + (a.eval y).cells.toList.length by omega,
   List.take_append_of_le_length (by omega), List.drop_append_of_le_length (by omega)]
  simp only [Yb]
 rw [hlist] at hrun; unfold Oper.wp; rw [hrun]; have h8 := h.write (cur' := ⟨hd' ++ (us.take off ++ (a.eval y).cells.toList ++ us.drop (off + (a.eval y).cells.toList.length)) ++ tl⟩) (o' := .con k (q69 cs off ys)) hg hb (fun w' hA hw' =>
  .inl ⟨b, c, _, hb, Xf hbl hA.1, k.wr (w := w) (us := us) hk hl h6 hcs (by simp only [Xg, X2, Yl]; omega) (by rw [<- hw']; exact setRow_heap w b _ _ T (0, 0) hcs) (fun b1 hb1 => by rw [<- hw']; exact setRow_other w b b1 _ (hno2 b1 hb1)) hA,
   qv9 (q1h hA _ _ (Xe _) (fun _ _ => rfl) _ _ h7) (q1h hA _ _ (Xe _) (fun _ _ => rfl) _ _ hyr)⟩)
 exact ⟨_, _, h8.put (by simp only [rep]) hd, hK⟩
theorem j0u (h : Rel C s a w β) {o : Oper} {t : TypeId} {x y : Operand} {id off n : Nat} {k : Con} {cs ys : List AV} {K : St -> Prop} {Q : Exit -> Act -> World -> Prop} (ho : o.op = .store t x y) (hxn : (u6 s.env x).need) (hyn : (u6 s.env y).need)
  (hx : (u6 s.env x).st = .ptr id off) (hk : k.k = some n) (hno : n <= off) (hg : q0e s.hp id = some (.con k cs)) (hy : q9b (u6 s.env y).st = some ys) (h1 : q12 P t = true) (h2 : ys.length = szT P t) (h3 : off - n + ys.length <= cs.length) (h4 : ys.all q8n = true) (hd : dok s.nt o.dst = true)
  (hK : K (({ s with hp := q0o s.hp id (.con k (q69 cs (off - n) ys)) } : St).put o.dst (.v undef))) : o.wp P a w (RK C K) Q := by
 have hxr := q1u h hxn; rw [hx] at hxr; simp only [rep] at hxr; obtain ⟨hlt, b, c, hb, hxv⟩ := hxr; exact z7p h ho hyn hb (by rw [hxv, show n + (off - n) = off by omega]) hk hg hy h1 h2 h3 h4 hd hK
theorem j0t (h : Rel C s a w β) {o : Oper} {t : TypeId} {x y : Operand} {id sz i off n : Nat} {k : Con} {cs ys : List AV} {K : St -> Prop} {Q : Exit -> Act -> World -> Prop} (ho : o.op = .store t x y) (hxn : (u6 s.env x).need) (hyn : (u6 s.env y).need)
  (hx : (u6 s.env x).st = .apt id sz i off) (hk : k.k = some n) (hno : n = i * sz) (hg : q0e s.hp id = some (.con k cs)) (hy : q9b (u6 s.env y).st = some ys) (h1 : q12 P t = true) (h2 : ys.length = szT P t) (h3 : off + ys.length <= cs.length) (h4 : ys.all q8n = true) (hd : dok s.nt o.dst = true)
  (hK : K (({ s with hp := q0o s.hp id (.con k (q69 cs off ys)) } : St).put o.dst (.v undef))) : o.wp P a w (RK C K) Q := by
 have hxr := q1u h hxn; rw [hx] at hxr; simp only [rep] at hxr; obtain ⟨hlt, b, c, hb, hxv⟩ := hxr; exact z7p h ho hyn hb (by rw [hxv, hno]) hk hg hy h1 h2 h3 h4 hd hK
theorem z4e {b : Nat} : ∀ {as : List AV} {o : Nat}, (∀ j, j < as.length -> ∃ u, w.cell? ⟨b, o + j, none⟩ = some u /\ u.oneCell' = true /\ rep w β 0 ow (as.getD j .junk) u) -> q3s w β ow b as o
 | [], _, _ => by simp only [q3s]
 | x :: xs, o, h => by
  simp only [q3s]; refine ⟨by simpa using h 0 (by simp), z4e fun j hj => ?_⟩; obtain ⟨u, h1, h0, h2⟩ := h (j + 1) (by simpa using hj); exact ⟨u, by rw [show o + 1 + j = o + (j + 1) by omega]; exact h1, h0, by simpa using h2⟩
theorem zx1 {b : Nat} {as : List AV} {o : Nat} (h : q3s w β ow b as o) {j : Nat} (hj : j < as.length) : ∃ u, w.cell? ⟨b, o + j, none⟩ = some u /\ u.oneCell' = true /\ rep w β 0 ow (as.getD j .junk) u := by
 obtain ⟨us, h1, h0, h2⟩ := qe8 h; have hl := q1f h1; have he : us[j]? = some (us.getD j undef) := by rw [Xq, Xn (by omega)]; rfl
 exact ⟨us.getD j undef, h2 j _ he, h0 _ (X6 he), qn8 h1 j hj⟩
theorem z3s {sz b : Nat} : ∀ {xs : List (List AV)} {o : Nat}, (∀ i, i < xs.length -> (q30 xs i).length = sz /\ q3s w β ow b (q30 xs i) (o + i * sz)) -> q0j w β ow sz b xs o
 | [], _, _ => by simp only [q0j]
 | r :: rs, o, h => by
  simp only [q0j]; have h0 := h 0 (by simp); simp only [q30, List.getD_cons_zero, Nat.zero_mul, Yv] at h0; refine ⟨h0.1, h0.2, z3s fun i hi => ?_⟩; have h1 := h (i + 1) (by simpa using hi); simp only [q30, Yu] at h1 ⊢; rw [show o + sz + i * sz = o + (i + 1) * sz by rw [Xs]; omega]; exact h1
theorem zt3 (l vs : List Value) (p q : Nat) (hp : p <= l.length) : (l.take p ++ vs ++ l.drop (p + vs.length))[q]? = if q < p then l[q]? else if q < p + vs.length then vs[q - p]? else l[q]? := by
 have hT : (l.take p).length = p := by rw [X2]; omega
 split
 . rw [Yb, Xm (by omega), Xv, if_pos (by omega)]
 .
  split
  . rw [Xm (by rw [Xg, hT]; omega), Xw (by omega), hT]
  .
   rw [Xw (by rw [Xg, hT]; omega), X9, Xg, hT]
   congr 1
   omega
theorem j0v {ns : List (Option Nat)} (h : Rel C s a w β) {o : Oper} {t : TypeId} {x y : Operand} {id sz i off : Nat} {xs : List (List AV)} {ys : List AV} {K : St -> Prop} {Q : Exit -> Act -> World -> Prop} (ho : o.op = .store t x y) (hxn : (u6 s.env x).need) (hyn : (u6 s.env y).need)
  (hx : (u6 s.env x).st = .apt id sz i off) (hy : q9b (u6 s.env y).st = some ys) (hf : qq9 s.hp ys) (hg : q0e (q5u (q75 ys) s.hp) id = some (.arr sz xs)) (h1 : q12 P t = true) (h2 : ys.length = szT P t) (h3 : i < xs.length /\ off + ys.length <= sz) (h4 : ys.all q8n = true)
  (h5 : (ys.map (frz s.hp)).all q8j = true) (hd : dok s.nt o.dst = true)
  (hK : K (({ s with hp := q0o (q5u (q75 ys) s.hp) id (.arr sz (xs.set i (q69 (q30 xs i) off (q1l ns (ys.map (frz s.hp)))))) } : St).put o.dst (.v undef))) : o.wp P a w (RK C K) Q := by
 have hxr := q1u h hxn; rw [hx] at hxr; simp only [rep] at hxr; obtain ⟨hlt, b, c, hb, hxv⟩ := hxr; have hyr := q8f hy (q1u h hyn); have hlen := q1f hyr; have hyr' := z4o h.hp (q7x (ids := q75 ys)) (fun j hj o' ho' => (qv1.1 ho').2 hj) hf hyr; have hs := h.sub (q7x (ids := q75 ys)); rcases hs.hp.obj _ (q0g hg) with ⟨h6, _⟩ | ⟨b', c', cur, e, h6, h7, h8, h9, h10, h11⟩
 . simp only at h6; rw [hb] at h6; cases h6
 simp only at h6; rw [hb] at h6; simp only [Xa, Xb] at h6; obtain ⟨rfl, rfl⟩ := h6; have hrow := qm2 h11 i h3.1; have hbnd : i * sz + off + ys.length <= cur.size := by
  have : (i + 1) * sz <= c * sz := Xz _ (by omega); rw [Xs] at this; omega
 have hlen' : (a.eval y).cells.toList.length = ys.length := hlen.symm; have hrun : (execOp a.eval o).run P w = .ok .skip (w.setRow b ⟨cur.toList.take (i * sz + off) ++ (a.eval y).cells.toList ++ cur.toList.drop (i * sz + off + (a.eval y).cells.toList.length)⟩) := by
  unfold execOp; simp only [ho, hxv]; have := z0a (P := P) (off := i * sz + off) (u := a.eval y) h1 h7 (by simp at hlen'; omega) (by simp at hlen'; omega) (q6w h4 hyr); simp [Instr.storeAt, Instr.sureAddr, this]
 unfold Oper.wp; rw [hrun]; have h12 := hs.write (cur' := ⟨cur.toList.take (i * sz + off) ++ (a.eval y).cells.toList ++ cur.toList.drop (i * sz + off + (a.eval y).cells.toList.length)⟩) (o' := .arr sz (xs.set i (q69 (q30 xs i) off (q1l ns (ys.map (frz s.hp)))))) hg hb (fun w' hA hw' => by
  have hcell : ∀ q, w'.cell? ⟨b, q, none⟩ = (cur.toList.take (i * sz + off) ++ (a.eval y).cells.toList ++ cur.toList.drop (i * sz + off + (a.eval y).cells.toList.length))[q]? := fun q => by
   rw [<- hw', cell_setRow_same w b q cur _ e (0, 0) h7]; simp
  have hold : ∀ q, w.cell? ⟨b, q, none⟩ = cur.toList[q]? := fun q => by rw [cell_of_row w b q cur e (0, 0) h7]; simp
  have hT : (cur.toList.take (i * sz + off)).length = i * sz + off := by rw [List.length_take]; simp; omega
  refine .inr ⟨b, c, _, e, hb, by rw [<- hw']; exact setRow_heap w b cur _ e (0, 0) h7, ?_, by simpa using h9, h10, ?_⟩
  . simp only [List.size_toArray, List.length_append, List.length_take, List.length_drop, Array.length_toList, hlen'] at *; omega
  .
   have hyL := q1h hA _ _ (Nat.le_refl _) (fun _ _ => rfl) _ _ (z0d (ns := ns) (q9c h5 hyr')); refine z3s fun k hk => ?_; simp only [List.length_set] at hk; obtain ⟨g1, g2⟩ := qm2 h11 k hk; simp only [Nat.zero_add] at g2 hrow ⊢
   by_cases hki : k = i
   .
    subst hki; have e1 : q30 (xs.set k (q69 (q30 xs k) off (q1l ns (ys.map (frz s.hp))))) k = q69 (q30 xs k) off (q1l ns (ys.map (frz s.hp))) := by
     simp [q30, hk]
    rw [e1]; obtain ⟨us, q1, q0, q2⟩ := qe8 g2; have q1' := q1h hA _ _ (Nat.le_refl _) (fun _ _ => rfl) _ _ q1; have q3 := q1f q1; refine ⟨?_, qj7 (qv9 (off := off) q1' hyL) (fun x hx => by
     simp only [List.mem_append] at hx; rcases hx with (hx | hx) | hx
     . exact q0 x (List.mem_of_mem_take hx)
     . exact q6w h4 hyr x hx
     . exact q0 x (List.mem_of_mem_drop hx)) fun j u hj => ?_⟩
    . simp only [q69, List.length_append, List.length_take, List.length_drop, q9e, List.length_map, g1]; omega
    .
     rw [hcell]; have hus : us.length = sz := by omega
     rw [zt3 _ _ _ _ (by omega)] at hj; rw [zt3 _ _ _ _ (by simp; omega)]
     by_cases c1 : j < off
     . rw [if_pos c1] at hj; rw [if_pos (by omega), <- hold]; exact q2 j u hj
     .
      rw [if_neg c1] at hj; rw [if_neg (by omega)]
      by_cases c2 : j < off + (a.eval y).cells.toList.length
      . rw [if_pos c2] at hj; rw [if_pos (by omega), show k * sz + j - (k * sz + off) = j - off by omega]; exact hj
      . rw [if_neg c2] at hj; rw [if_neg (by omega), <- hold]; exact q2 j u hj
   .
    have e1 : q30 (xs.set i (q69 (q30 xs i) off (q1l ns (ys.map (frz s.hp))))) k = q30 xs k := by
     simp [q30, Ne.symm hki]
    rw [e1]; refine ⟨g1, z4e fun j hj => ?_⟩; obtain ⟨u, q1, q0, q2⟩ := zx1 g2 hj; refine ⟨u, ?_, q0, q4v hA _ _ (Nat.le_refl _) (fun _ _ => rfl) _ _ q2⟩; rw [hcell]; rw [hold] at q1; rw [g1] at hj; rcases Nat.lt_or_ge k i with hlt' | hge'
    . have : (k + 1) * sz <= i * sz := Nat.mul_le_mul_right _ hlt'; rw [Nat.add_mul] at this; rw [List.append_assoc, List.getElem?_append_left (by rw [hT]; omega), List.getElem?_take, if_pos (by omega)]; exact q1
    . have : (i + 1) * sz <= k * sz := Nat.mul_le_mul_right _ (by omega); rw [Nat.add_mul] at this; rw [List.getElem?_append_right (by rw [List.length_append, hT, hlen']; omega), List.getElem?_drop, List.length_append, hT, hlen']; rw [show i * sz + off + ys.length + (k * sz + j - (i * sz + off + ys.length)) = k * sz + j by omega]; exact q1)
 exact ⟨_, _, h12.put (by simp only [rep]) hd, hK⟩
end
end
section
open Go Go.RowKit
def q1v (P : Program) (t : TypeId) : Nat := ((P.info? t).map (·.bytes)).getD 0
def qu8 (hp : Hp) : AV -> Option (Nat × List (List AV) × Prop)
 | .sl sz xs => some (sz, xs, True)
 | .v (.slice none 0 0) => some (0, [], True)
 | .osl id sz off len => match q0e hp id with
  | some (.arr sz' xs) => some (sz, (xs.drop off).take len, sz' = sz /\ off + len <= xs.length)
  | _ => none
 | .bsl id off len => match q0e hp id with
  | some (.box cs) => some (1, ((cs.drop off).take len).map (fun c => [c]), off + len <= cs.length /\ cs.all q8n = true /\ cs.all q8j = true)
  | _ => none
 | _ => none
section
variable {P : Program} {C : Ctx P} {s : St} {a : Act} {w : World} {β : Ghost} {nx : Nat} {A : Nat -> Prop} {hp : Hp} {ow : Nat -> Prop}
theorem qa8 {sz : Nat} : ∀ {xs : List (List AV)}, (∀ r ∈ xs, r.length = sz) -> xs.flatten.length = xs.length * sz
 | [], _ => by simp
 | r :: rs, h => by
  simp only [Xx, Xg, Ym, qa8 fun r hr => h r (Xj _ hr), h r Xu, Xs]; omega
theorem q85 {sz b : Nat} : ∀ {xs : List (List AV)} {o : Nat}, q0j w β ow sz b xs o -> ∀ r ∈ xs, r.length = sz
 | r :: rs, o, h, x, hx => by
  simp only [q0j] at h; rcases Xc.1 hx with rfl | hx
  . exact h.1
  . exact q85 h.2.2 x hx
theorem qg8 {sz b : Nat} : ∀ {xs : List (List AV)} {o : Nat}, q0j w β ow sz b xs o -> ∃ us, x9 w β 0 ow xs.flatten us /\ (∀ u ∈ us, u.oneCell' = true) /\ ∀ (j : Nat) (u : Value), us[j]? = some u -> w.cell? ⟨b, o + j, none⟩ = some u
 | [], o, _ => ⟨[], by simp [x9], by simp, by simp⟩
 | r :: rs, o, h => by
  simp only [q0j] at h; obtain ⟨us, h1, h10, h2⟩ := qe8 h.2.1; obtain ⟨vs, h3, h30, h4⟩ := qg8 h.2.2; have hl := q1f h1; refine ⟨us ++ vs, by simp only [Xx]; exact q5g h1 h3, fun x hx => (Yp.1 hx).elim (h10 x) (h30 x), ?_⟩; intro j u hj; rcases Yg j us.length with hlt | hge
  . rw [Xm hlt] at hj; exact h2 j u hj
  .
   rw [Xw hge] at hj; have := h4 _ u hj
   rwa [show o + sz + (j - us.length) = o + j by omega] at this
theorem q5m {sz b : Nat} : ∀ {xs : List (List AV)} {us : List Value} {o : Nat}, (∀ r ∈ xs, r.length = sz) -> x9 w β 0 ow xs.flatten us -> (∀ u ∈ us, u.oneCell' = true) -> (∀ (j : Nat) (u : Value), us[j]? = some u -> w.cell? ⟨b, o + j, none⟩ = some u) -> q0j w β ow sz b xs o
 | [], _, _, _, _, _, _ => by simp only [q0j]
 | r :: rs, us, o, hl, h, ho, hu => by
  have hr := hl r Xu; have hlen := q1f h; simp only [Xx, Xg] at hlen; have h1 := q64 h r.length; have h2 := q74 h r.length; simp only [Xx, List.take_left, List.drop_left] at h1 h2; simp only [q0j]; refine ⟨hr, qj7 h1 (fun x hx => ho x (Yr hx)) fun j u hj => ?_, q5m (fun x hx => hl x (Xj _ hx)) h2 (fun x hx => ho x (Ys hx)) fun j u hj => ?_⟩
  .
   rw [Xv] at hj
   split at hj
   . exact hu j u hj
   . cases hj
  .
   rw [X9] at hj; have := hu _ u hj
   rwa [show o + (r.length + j) = o + sz + j by omega] at this
theorem z1l (hhp : HpRel w β nx A hp) {y : AV} {sz : Nat} {ys : List (List AV)} {c : Prop} {u : Value} (h : qu8 hp y = some (sz, ys, c)) (hc : c) (hr : rep w β nx (own β hp A) y u) :
  ∃ ad cap us, u = .slice ad ys.length cap /\ x9 w β 0 (own β hp A) ys.flatten us /\ (ys = [] \/ ∀ r ∈ ys, r.length = sz) /\ (ad = none -> ys = []) /\ (∀ v ∈ us, v.oneCell' = true) /\ ∀ x, ad = some x -> ∀ (j : Nat) (v : Value), us[j]? = some v -> w.cell? (x.add j) = some v := by
 unfold qu8 at h
 split at h
 .
  simp only [Xa, Xb] at h; obtain ⟨rfl, rfl, _⟩ := h; simp only [rep] at hr; rcases hr with ⟨rfl, ad, cap, rfl⟩ | ⟨b, o, cap, rfl, _, _, _, h5⟩
  . exact ⟨ad, cap, [], rfl, by simp [x9], .inl rfl, fun _ => rfl, by simp, fun _ _ _ _ hj => by simp at hj⟩
  .
   obtain ⟨us, h6, h60, h7⟩ := qg8 h5; exact ⟨_, cap, us, rfl, h6, .inr (q85 h5), (fun hn => by cases hn), h60, fun x hx j v hj => by
    simp only [Xa] at hx; subst hx; rw [q6u]; exact h7 j v hj⟩
 . simp only [Xa, Xb] at h; obtain ⟨rfl, rfl, _⟩ := h; simp only [rep] at hr; exact ⟨none, 0, [], hr, by simp [x9], .inl rfl, fun _ => rfl, by simp, fun _ _ _ _ hj => by simp at hj⟩
 .
  rename_i id sz' off len
  split at h
  .
   rename_i sz'' xs hg
   simp only [Xa, Xb] at h; obtain ⟨rfl, rfl, rfl⟩ := h; obtain ⟨rfl, hlen⟩ := hc; simp only [rep] at hr; have hl : ((xs.drop off).take len).length = len := by simp; omega
   rcases hr.2 with ⟨h1, rfl, rfl, rfl⟩ | ⟨b, c, cap, ad, h1, rfl, h2, h3, h4⟩
   . exact ⟨none, 0, [], by simp, by simp [x9], .inl (by simp), fun _ => by simp, by simp, fun _ _ _ _ hj => by simp at hj⟩
   .
    rcases hhp.obj _ (q0g hg) with ⟨h5, _⟩ | ⟨b', c', cur, e, h5, h6, h7, h8, h9, h10⟩
    . simp only at h5; rw [h1] at h5; cases h5
    simp only at h5; rw [h1] at h5; simp only [Xa, Xb] at h5; obtain ⟨rfl, rfl⟩ := h5; rcases h4 with rfl | h4
    .
     have h11 := q9p (qg9 h10 off) len; rw [Xp] at h11; obtain ⟨us, h12, h120, h13⟩ := qg8 h11; exact ⟨_, cap, us, by rw [hl], h12, .inr (q85 h11), (fun hn => by cases hn), h120, fun x hx j v hj => by
      simp only [Xa] at hx; subst hx; rw [q6u]; exact h13 j v hj⟩
    .
     have : len = 0 := by omega
     subst this; exact ⟨some ad, cap, [], by simp, by simp [x9], .inl (by simp), (fun hn => by cases hn), by simp, fun _ _ _ _ hj => by simp at hj⟩
  . cases h
 .
  rename_i id off len
  split at h
  .
   rename_i xs hg
   simp only [Xa, Xb] at h; obtain ⟨rfl, rfl, rfl⟩ := h; obtain ⟨hlen, ho, hpu⟩ := hc; simp only [rep] at hr; have hl : ((xs.drop off).take len).length = len := by simp; omega
   have hfl : (((xs.drop off).take len).map (fun c => [c])).flatten = (xs.drop off).take len := by
    generalize (xs.drop off).take len = l
    induction l with
    | nil => rfl
    | cons x l ih => simp only [Xi, Xx, ih]; rfl
   obtain ⟨_, b, C, cap, a, h1, rfl, h2, h3⟩ := hr; obtain ⟨b', C', cur, e, h5, h6, h7⟩ := hhp.obj _ (q0g hg); simp only at h5; rw [h1] at h5; simp only [Xa, Xb] at h5; obtain ⟨rfl, rfl⟩ := h5; have h8 := q64 (q74 (q9c hpu h7) off) len; refine ⟨some a, cap, _, by rw [List.length_map, hl], by rw [hfl]; exact h8, .inr (fun r hr => by obtain ⟨c, _, rfl⟩ := X3.1 hr; rfl), (fun hn => by cases hn), fun v hv => q6w ho h7 v (Ys (Yr hv)), ?_⟩; intro x hx j v hj; simp only [Xa] at hx; subst hx; rcases h3 with rfl | h3
   .
    rw [q6u]; rw [Xv] at hj
    split at hj
    .
     rw [X9] at hj; rw [cell_of_row w b (off + j) cur e (0, 0) h6]
     simpa using hj
    . cases hj
   . subst h3; simp at hj
  . cases h
 . cases h
theorem z0z {size n cap : Nat} {ad : Option Addr} {news : List Value} (hl : news.length = n * size) (hn : ad = none -> news = []) (h : ∀ x, ad = some x -> ∀ (j : Nat) (v : Value), news[j]? = some v -> w.cell? (x.add j) = some v) :
  (Builtin.firstCells size n (.slice ad n cap)).run P w = .ok ⟨news⟩ w := by
 cases ad with
 | none => rw [hn rfl]; simp [Builtin.firstCells]
 | some x => exact run_firstCells_some w size n x n cap news hl (h x rfl)
theorem zj4 (t ty e : TypeId) (i : TypeInfo) (ht : P.underlying t = some (.slice e)) (hi : P.info? e = some i) (g n cap : Nat) (cur : Array Value) (e' : TypeId) (hg : w.heap[g]? = some (.cells cur e' (0, 0)))
  (ad : Option Addr) (m c : Nat) (news : List Value) (hl : news.length = m * i.size) (hn : ad = none -> news = []) (hnews : ∀ x, ad = some x -> ∀ (j : Nat) (v : Value), news[j]? = some v -> w.cell? (x.add j) = some v)
  (h1 : ∀ u ∈ news, u.oneCell' = true) (hroom : n + m <= cap) (hfit : n * i.size + news.length <= cur.size) :
  (Builtin.append_ #[t, t] ty #[.slice (some ⟨g, 0, none⟩) n cap, .slice ad m c]).run P w =
   .ok (.slice (some ⟨g, 0, none⟩) (n + m) cap) (w.setRow g (cur.toList.take (n * i.size) ++ news ++ cur.toList.drop (n * i.size + news.length)).toArray) := by
 have hf := z0z (P := P) (cap := c) hl hn hnews; have hst := run_storeCells_at P g (n * i.size) e' news 0 cur w hg (by simpa using hfit) h1; simp only [Yv] at hst; simp [Builtin.append_, run_underlying ht, sizeOf, typeInfo, hi, Builtin.lenOf, hroom, hf, Addr.add_lit, hst]
theorem j6v (t ty e : TypeId) (i : TypeInfo) (z : Value) (ht : P.underlying t = some (.slice e)) (hi : P.info? e = some i) (hz : i.zero = some z) (hzs : z.cells.size = i.size)
  (v : Value) (n : Nat) (olds : List Value) (hv : (v = .slice none 0 0 /\ n = 0 /\ olds = []) \/ ∃ g cap cur e', v = .slice (some ⟨g, 0, none⟩) n cap /\ w.heap[g]? = some (.cells cur e' (0, 0)) /\ n <= cap /\ cap * i.size <= cur.size /\ cur.toList.take (n * i.size) = olds)
  (ad : Option Addr) (m c : Nat) (news : List Value) (hl : news.length = m * i.size) (hn : ad = none -> m = 0) (hnews : ∀ x, ad = some x -> ∀ (j : Nat) (v : Value), news[j]? = some v -> w.cell? (x.add j) = some v)
  (h1 : ∀ u ∈ news, u.oneCell' = true) (h63 : n + m <= maxLen) (hb : (n + m) * i.bytes <= 140737488355328) :
  (∃ g cap cur e', v = .slice (some ⟨g, 0, none⟩) n cap /\ w.heap[g]? = some (.cells cur e' (0, 0)) /\ n + m <= cap /\ (Builtin.append_ #[t, t] ty #[v, .slice ad m c]).run P w =
    .ok (.slice (some ⟨g, 0, none⟩) (n + m) cap) (w.setRow g ⟨cur.toList.take (n * i.size) ++ news ++ cur.toList.drop (n * i.size + news.length)⟩)) \/
  (v = .slice none 0 0 /\ m = 0 /\ (Builtin.append_ #[t, t] ty #[v, .slice ad m c]).run P w = .ok (.slice none 0 0) w) \/
  (∃ nc rest, n + m <= nc /\ nc <= maxLen /\ (olds ++ news ++ rest).length = nc * i.size /\ (Builtin.append_ #[t, t] ty #[v, .slice ad m c]).run P w =
    .ok (.slice (some ⟨w.heap.size, 0, none⟩) (n + m) nc) (w.drew.alloc (.cells ⟨olds ++ news ++ rest⟩ e))) := by
 have hsmall : n + m <= 9223372036854775807 := by simp only [maxLen] at h63; omega
 have hn' : ad = none -> news = [] := fun h0 => Xh (by rw [hl, hn h0]; simp); rcases hv with ⟨rfl, rfl, rfl⟩ | ⟨g, cap, cur, e', rfl, hg, hnc, hcs, htake⟩
 .
  by_cases hm : m = 0
  . subst hm; refine .inr (.inl ⟨rfl, rfl, ?_⟩); have hnn : news = [] := Xh (by simpa using hl); subst hnn; have hf := z0z (P := P) (w := w) (size := i.size) (n := 0) (cap := c) (ad := ad) (news := []) (by simp) (fun _ => rfl) (fun _ _ _ _ hj => by simp at hj); simp [Builtin.append_, run_underlying ht, sizeOf, typeInfo, hi, Builtin.lenOf, hf]
  .
   right; right
   cases ad with
   | none => exact absurd (hn rfl) hm
   | some x =>
    have hr := run_append_nil (P := P) w t ty e i z ht hi hz x m c news hl (hnews x rfl) (by omega) (by omega) (by simp only [Xp] at hb; omega); have hge := grownCap_ge w m 0 e; refine ⟨grownCap w m 0 e, (Builtin.zeroCells z.cells (grownCap w m 0 e - m)).toList, by omega, grownCap_le_maxLen w m 0 e (by omega), ?_, ?_⟩
    .
     simp only [X8, Xg, X7, size_zeroCells, hl, hzs, <- Xs]
     congr 1; omega
    .
     rw [hr]; simp only [Xp, X8]
     congr 3
     apply Xr; simp
 .
  have hol : olds.length = n * i.size := by
   rw [<- htake, X2]; have : n * i.size <= cap * i.size := Xz _ hnc; simp; omega
  by_cases hroom : n + m <= cap
  .
   left
   have hfit : n * i.size + news.length <= cur.size := by rw [hl, <- Xs]; exact Ya (Xz _ hroom) hcs
   exact ⟨g, cap, cur, e', rfl, hg, hroom, zj4 t ty e i ht hi g n cap cur e' hg ad m c news hl hn' hnews h1 hroom hfit⟩
  .
   right; right
   cases ad with
   | none => exact absurd (hn rfl) (by omega)
   | some x =>
    have holds : ∀ (j : Nat) (u : Value), olds[j]? = some u -> w.cell? ((⟨g, 0, none⟩ : Addr).add j) = some u := by
     intro j u hj; rw [q6u, Xp, cell_of_row w g j cur e' (0, 0) hg]; rw [<- htake, Xv] at hj
     split at hj
     . simpa using hj
     . cases hj
    have hr := run_append_grow (P := P) w t ty e i z ht hi hz ⟨g, 0, none⟩ n cap olds hol holds x m c news hl (hnews x rfl) (by omega) (by omega) (growslice_fits (by omega) hb); have hge := grownCap_ge w (n + m) cap e; refine ⟨grownCap w (n + m) cap e, (Builtin.zeroCells z.cells (grownCap w (n + m) cap e - (n + m))).toList, by omega, grownCap_le_maxLen w (n + m) cap e h63, ?_, ?_⟩
    .
     simp only [Xg, X7, size_zeroCells, hl, hol, hzs, <- Xs]
     congr 1; omega
    .
     rw [hr]
     congr 3
     apply Xr; simp
end
end
section
open Go Go.RowKit
def zh2 (hp : Hp) : AV -> Option (Nat × List (List AV) × List Nat × Prop)
 | .v (.slice none 0 0) => some (0, [], [], True)
 | .osl id sz off len => match q0e hp id with
  | some (.arr sz' xs) => some (sz, xs, [id], sz' = sz /\ off = 0 /\ len = xs.length)
  | _ => none
 | _ => none
section
variable {P : Program} {C : Ctx P} {s : St} {a : Act} {w : World} {β : Ghost} {nx : Nat} {A : Nat -> Prop} {hp : Hp} {ow : Nat -> Prop}
theorem HpRel.cons' {w' : World} (h : HpRel w β nx A hp) {bc : Option (Nat × Nat)} {o : AObj} {hp1 : Hp} (hs : hp1.Sublist hp)
  (hA : Agree w w' (own β hp A) (own (upd β nx bc) ((nx, o) :: hp1) A)) (hk : ∀ b', blks β hp1 b' -> w'.heap[b']? = w.heap[b']?)
  (hnb : ∀ b c, bc = some (b, c) -> ¬ blks β hp1 b /\ ¬ A b) (hoc : q94 o = false) (ho : q5f w' (upd β nx bc) (nx + 1) (own (upd β nx bc) ((nx, o) :: hp1) A) nx o) :
  HpRel w' (upd β nx bc) (nx + 1) A ((nx, o) :: hp1) := by
 have hlt : ∀ p ∈ hp1, p.1 < nx := fun p hp' => h.lt p (hs.subset hp'); refine ⟨?_, ?_, ?_, ?_, ?_, ?_, ?_⟩
 .
  intro p hp'; rcases Xc.1 hp' with rfl | hp'
  . exact ho
  . exact q3m hA (X0 _) (fun id hid => q2j _ _ _ _ hid) (hlt p hp') (fun b' hb' => hk b' ⟨p, hp', hb'⟩) (fun _ => q56 _ _ _ _ (hlt p hp')) (h.obj p (hs.subset hp'))
 .
  intro p hp'; rcases Xc.1 hp' with rfl | hp'
  . exact Xo _
  . exact Yw (hlt p hp')
 . simp only [Xi, Yh]; refine ⟨?_, (hs.map _).nodup h.nd⟩; intro hm; obtain ⟨q, hq, he⟩ := X3.1 hm; exact Nat.ne_of_lt (hlt q hq) he
 .
  intro p hp1 q hq1 b' c1 c2 h1 h2; rcases Xc.1 hp1 with rfl | hp1 <;> rcases Xc.1 hq1 with rfl | hq1
  . rfl
  . rw [q1a] at h1; rw [q2j _ _ _ _ (hlt q hq1)] at h2; exact absurd (q6s hq1 h2) (hnb _ _ h1).1
  . rw [q1a] at h2; rw [q2j _ _ _ _ (hlt p hp1)] at h1; exact absurd (q6s hp1 h1) (hnb _ _ h2).1
  . rw [q2j _ _ _ _ (hlt p hp1)] at h1; rw [q2j _ _ _ _ (hlt q hq1)] at h2; exact h.inj p (hs.subset hp1) q (hs.subset hq1) b' c1 c2 h1 h2
 .
  intro p hp1 b' c1 h1; rcases Xc.1 hp1 with rfl | hp1
  . rw [q1a] at h1; exact (hnb _ _ h1).2
  . rw [q2j _ _ _ _ (hlt p hp1)] at h1; exact h.av p (hs.subset hp1) b' c1 h1
 .
  intro p hp1 hc; rcases Xc.1 hp1 with rfl | hp1
  . exact q8r _ _ _
  . rw [q56 _ _ _ _ (hlt p hp1)]; exact h.i0 p (hs.subset hp1) hc
 .
  intro p hp1 b' hb; rcases Xc.1 hp1 with rfl | hp1
  . rw [q8r] at hb; cases hb
  .
   rw [q56 _ _ _ _ (hlt p hp1)] at hb; obtain ⟨i1, i2, i3, i4⟩ := h.ib p (hs.subset hp1) b' hb; refine ⟨Xf i1 hA.1, i2, fun q hq1 C hc => ?_, fun q hq1 hb2 => ?_⟩
   .
    rcases Xc.1 hq1 with rfl | hq1
    . rw [q1a] at hc; exact (hnb _ _ hc).1 ⟨p, hp1, .inr hb⟩
    . rw [q2j _ _ _ _ (hlt q hq1)] at hc; exact i3 q (hs.subset hq1) C hc
   .
    rcases Xc.1 hq1 with rfl | hq1
    . rw [q8r] at hb2; cases hb2
    . rw [q56 _ _ _ _ (hlt q hq1)] at hb2; exact i4 q (hs.subset hq1) hb2
theorem Rel.more (h : Rel C s a w β) {w' : World} {bc : Option (Nat × Nat)} {o : AObj} {hp1 : Hp} (hs : hp1.Sublist s.hp) (hsz : w.heap.size <= w'.heap.size)
  (hK : ∀ b, b < w.heap.size -> (∀ c, bc ≠ some (b, c)) -> w'.heap[b]? = w.heap[b]?)
  (hnew : ∀ b c, bc = some (b, c) -> b < w.heap.size -> blks β s.hp b /\ ¬ blks β hp1 b)
  (ho : ∀ ow', Agree w w' (own β s.hp C.A) ow' -> q5f w' (upd β s.nx bc) (s.nx + 1) ow' s.nx o) (h1 : w'.os = w.os) (h2 : w'.tape = w.tape) (h3 : w'.output = w.output /\ (dkF = true -> w.drawn <= w'.drawn)) (hoc : q94 o = false := by rfl) :
  Rel C { s with hp := (s.nx, o) :: hp1, nx := s.nx + 1 } a w' (upd β s.nx bc) := by
 have hbl : ∀ b, blks β s.hp b -> b < w.heap.size := fun b ⟨q, hq, hc⟩ => h.hp.bofLt q hq b hc; have hsub : ∀ b, blks β hp1 b -> blks β s.hp b := fun b ⟨q, hq, hc⟩ => ⟨q, hs.subset hq, hc⟩; have hO : ∀ b, b < w.heap.size -> blks (upd β s.nx bc) ((s.nx, o) :: hp1) b -> blks β s.hp b := by
  rintro b hb ⟨q, hq, hc⟩; rcases Xc.1 hq with rfl | hq
  . obtain ⟨c', hc⟩ := z05 hc; exact (hnew b c' hc hb).1
  . exact ⟨q, hs.subset hq, (qz9 (h.hp.lt q (hs.subset hq))).1 hc⟩
 have hK' : ∀ b, b < w.heap.size -> ¬ blks β s.hp b -> w'.heap[b]? = w.heap[b]? := fun b hb hnb => hK b hb fun c hc => hnb (hnew b c hc hb).1; have hA : Agree w w' (own β s.hp C.A) (own (upd β s.nx bc) ((s.nx, o) :: hp1) C.A) :=
  ⟨hsz, fun b hnb hb => ⟨hK' b hb (fun hx => hnb (.inr hx)), fun ho' => by
   rcases ho' with hh | hh
   . exact hnb (.inl hh)
   . exact hnb (.inr (hO b hb hh))⟩⟩
 refine h.step (X0 _) (fun id hid => q2j _ _ _ _ hid) hsz hK' hO ?_ ?_ h1 h2 h3
 .
  refine h.hp.cons' hs hA (fun b hb => hK b (hbl b (hsub b hb)) fun c hc => (hnew b c hc (hbl b (hsub b hb))).2 hb) (fun b c hc => ?_) hoc (ho _ hA); rcases Yg b w.heap.size with hlt | hge
  . refine ⟨(hnew b c hc hlt).2, fun hx => ?_⟩; obtain ⟨q, hq, hc'⟩ := (hnew b c hc hlt).1; exact h.hp.bofAv q hq b hc' hx
  .
   refine ⟨fun hx => ?_, fun hx => ?_⟩
   . have := hbl b (hsub b hx); omega
   . have := h.alt b hx; have := h.ext.size; omega
 .
  intro p hp; rcases Xc.1 hp with rfl | hp
  . exact .inr (Xe _)
  . exact .inl (Xk (hs.subset hp))
theorem q7y {e : TypeId} (he : q12 P e = true) : ∃ i, P.info? e = some i /\ i.size = szT P e /\ i.bytes = q1v P e := by
 obtain ⟨i, d, hi, _, hs⟩ := qp3 he; exact ⟨i, hi, hs, by simp [q1v, hi]⟩
theorem z1b {o : Oper} {cl : Call} {b : Builtin} {x y : Operand} {ts : List TypeId} (ho : o.op = .call cl) (hcl : cl.callee = .builtin b) (hargs : cl.args.toList = [x, y]) (hts : cl.argTypes.toList = ts) (hb : b = .append) :
  (execOp a.eval o).run P w = ((Builtin.append_ ⟨ts⟩ o.type #[a.eval x, a.eval y]).run P w).andThen fun v w' => .ok (.value v) w' := by
 have e2 : cl.args = #[x, y] := Xr hargs; have e3 : cl.argTypes = ⟨ts⟩ := Xr hts; subst hb; unfold execOp; simp only [ho]; simp [resolve, hcl, e2, e3, invoke, builtin]
theorem zb2 (h : Rel C s a w β) {o : Oper} {cl : Call} {x y : Operand} {t e : TypeId} {szx szy : Nat} {xs ys : List (List AV)} {ids : List Nat} {cb cs : Prop} {zs : List Value} {K : St -> Prop} {Q : Exit -> Act -> World -> Prop}
  (ho : o.op = .call cl) (hcl : cl.callee = .builtin .append) (hargs : cl.args.toList = [x, y]) (hts : cl.argTypes.toList = [t, t]) (hxn : (u6 s.env x).need) (hyn : (u6 s.env y).need)
  (hbase : zh2 s.hp (u6 s.env x).st = some (szx, xs, ids, cb)) (hcb : cb) (hsrc : qu8 s.hp (u6 s.env y).st = some (szy, ys, cs)) (hcs : cs) (he : sliceT P t = some e) (hT : q12 P e = true)
  (hz : q1i P e = some zs) (hzl : zs.length = szT P e) (hx : ids = [] \/ szx = szT P e) (hy : ys = [] \/ szy = szT P e) (hpos : 0 < q1v P e) (hlen : (xs.length + ys.length) * q1v P e <= 140737488355328) (hd : dok s.nt o.dst = true)
  (hK : K (({ s with hp := (s.nx, .arr (szT P e) (xs ++ ys)) :: q5u ids s.hp, nx := s.nx + 1 } : St).put o.dst (.osl s.nx (szT P e) 0 (xs.length + ys.length)))) : o.wp P a w (RK C K) Q := by
 obtain ⟨i, hi, hisz, hib⟩ := q7y hT; have hmax : xs.length + ys.length <= maxLen := by
  have : xs.length + ys.length <= (xs.length + ys.length) * q1v P e := Nat.le_mul_of_pos_right _ hpos; simp only [maxLen]; omega
 unfold q1i at hz; simp only [Xd, Xt] at hz; obtain ⟨z, ⟨i', hi', hz⟩, rfl⟩ := hz; rw [hi] at hi'; simp only [Xa] at hi'; subst hi'; have hzs : z.cells.size = i.size := by rw [hisz, <- hzl]; simp
 obtain ⟨ad, cap, us, hu, hL, hlens, hnone, hone, hcells⟩ := z1l h.hp hsrc hcs (q1u h hyn); have hLu : us.length = ys.length * i.size := by
  rw [<- q1f hL, hisz]; rcases hlens with rfl | hlens
  . simp
  .
   rcases hy with rfl | rfl
   . simp
   . exact qa8 hlens
 have hys : ys = [] \/ ∀ r ∈ ys, r.length = szT P e := by
  rcases hlens with h0 | h0
  . exact .inl h0
  .
   rcases hy with h1 | h1
   . exact .inl h1
   . exact .inr (by rw [<- h1]; exact h0)
 have hysl : ∀ r ∈ ys, r.length = szT P e := by
  rcases hys with rfl | h0
  . simp
  . exact h0
 have hbx := q1u h hxn; have hrun := z1b (P := P) (a := a) (w := w) ho hcl hargs hts rfl
 -- the base
 have hv : ∃ olds, (a.eval x = .slice none 0 0 /\ xs.length = 0 /\ olds = [] \/ ∃ g cap cur e', a.eval x = .slice (some ⟨g, 0, none⟩) xs.length cap /\ w.heap[g]? = some (.cells cur e' (0, 0)) /\ xs.length <= cap /\ cap * i.size <= cur.size /\ cur.toList.take (xs.length * i.size) = olds) /\
   x9 w β 0 (own β s.hp C.A) xs.flatten olds /\ (∀ u ∈ olds, u.oneCell' = true) /\ (∀ r ∈ xs, r.length = szT P e) /\
   (∀ g cap, a.eval x = .slice (some ⟨g, 0, none⟩) xs.length cap -> ∃ c cur e', cur.size = c * szT P e /\ cap <= c /\ c <= maxLen /\ w.heap[g]? = some (.cells cur e' (0, 0)) /\ blks β s.hp g /\ ¬ blks β (q5u ids s.hp) g) := by
  unfold zh2 at hbase
  split at hbase
  .
   rename_i heq
   simp only [Xa, Xb] at hbase; obtain ⟨rfl, rfl, rfl, _⟩ := hbase; rw [heq] at hbx; simp only [rep] at hbx; exact ⟨[], .inl ⟨hbx, rfl, rfl⟩, by simp [x9], by simp, by simp, fun g cap hg => by rw [hbx] at hg; cases hg⟩
  .
   rename_i id sz off len heq
   split at hbase
   .
    rename_i sz' xs' hg
    simp only [Xa, Xb] at hbase; obtain ⟨rfl, rfl, rfl, rfl⟩ := hbase; obtain ⟨rfl, rfl, rfl⟩ := hcb; have hszx : sz' = szT P e := by
     rcases hx with hx | hx
     . cases hx
     . exact hx
    subst hszx; rw [heq] at hbx; simp only [rep] at hbx; rcases hbx.2 with ⟨h1, _, h2, h3⟩ | ⟨b, c, cap', ad', h1, h2, h3, h4, h5⟩
    . have hxs : xs' = [] := Xh h2; subst hxs; exact ⟨[], .inl ⟨h3, rfl, rfl⟩, by simp [x9], by simp, by simp, fun g cap hg => by rw [h3] at hg; cases hg⟩
    .
     rcases h.hp.obj _ (q0g hg) with ⟨h6, _⟩ | ⟨b', c', cur, e', h6, h7, h8, h9, h10, h11⟩
     . simp only at h6; rw [h1] at h6; cases h6
     simp only at h6; rw [h1] at h6; simp only [Xa, Xb] at h6; obtain ⟨rfl, rfl⟩ := h6; rcases h5 with rfl | ⟨_, h5⟩
     .
      obtain ⟨olds, h12, h120, h13⟩ := qg8 h11; have hol : olds.length = xs'.length * i.size := by rw [<- q1f h12, hisz]; exact qa8 (q85 h11)
      have hcap : cap' * i.size <= cur.size := by rw [h8, hisz]; exact Xz _ (by omega)
      refine ⟨olds, .inr ⟨b, cap', cur, e', by rw [h2]; simp, h7, h3, hcap, ?_⟩, h12, h120, q85 h11, fun g cap'' hg' => ?_⟩
      .
       apply List.ext_getElem?; intro j; rw [Xv]
       split
       .
        rename_i hj
        have hj' : j < olds.length := by omega
        have h14 := h13 j _ (Xn hj'); rw [Xp, cell_of_row w b j cur e' (0, 0) h7] at h14; rw [Xn hj']
        simpa using h14
       .
        rename_i hj
        rw [Yq (by omega)]
      . rw [h2] at hg'; simp only [Value.slice.injEq, Xa, Addr.mk.injEq] at hg'; obtain ⟨⟨rfl, _⟩, _, rfl⟩ := hg'; refine ⟨c, cur, e', h8, by omega, h10, h7, q6s (q0g hg) h1, ?_⟩; rintro ⟨q, hq, hc2⟩; have hq' := qv1.1 hq; have := h.hp.bofInj q hq'.1 _ (q0g hg) b hc2 (.inl ⟨c, h1⟩); exact hq'.2 (by rw [this]; simp)
     . exact absurd rfl h5
   . cases hbase
  . cases hbase
 obtain ⟨olds, hv, hvL, hvo, hvl, hvb⟩ := hv; have hvlen : olds.length = xs.length * i.size := by rw [<- q1f hvL, hisz]; exact qa8 hvl
 have hall : ∀ r ∈ xs ++ ys, r.length = szT P e := fun r hr => (Yp.1 hr).elim (hvl r) (hysl r); have hrows : ∀ (w' : World) (ow' : Nat -> Prop) (b : Nat), Agree w w' (own β s.hp C.A) ow' -> (∀ (j : Nat) (u : Value), (olds ++ us)[j]? = some u -> w'.cell? ⟨b, 0 + j, none⟩ = some u) ->
   q0j w' (upd β s.nx (some (b, 0))) ow' (szT P e) b (xs ++ ys) 0 := fun w' ow' b hA hc => by
  refine q5m hall ?_ (fun u hu => (Yp.1 hu).elim (hvo u) (hone u)) hc; rw [List.flatten_append]; exact q1h hA 0 0 (Xe _) (fun _ hi => absurd hi (Yf _)) _ _ (q5g hvL hL)
 have hout : ∀ (w' : World) (bc : Option (Nat × Nat)) (v : Value), (Builtin.append_ #[t, t] o.type #[a.eval x, a.eval y]).run P w = .ok v w' ->
   Rel C { s with hp := (s.nx, .arr (szT P e) (xs ++ ys)) :: q5u ids s.hp, nx := s.nx + 1 } a w' (upd β s.nx bc) ->
   rep w' (upd β s.nx bc) (s.nx + 1) (own (upd β s.nx bc) ((s.nx, .arr (szT P e) (xs ++ ys)) :: q5u ids s.hp) C.A) (.osl s.nx (szT P e) 0 (xs.length + ys.length)) v -> o.wp P a w (RK C K) Q := by
  intro w' bc v hr hR hv'; unfold Oper.wp; rw [hrun, show (⟨[t, t]⟩ : Array TypeId) = #[t, t] from rfl, hr]; exact ⟨_, _, hR.put hv' hd, hK⟩
 rw [hu] at hrun hout; rcases j6v (P := P) (w := w) t o.type e i z (q0h he) hi hz hzs (a.eval x) xs.length olds hv ad ys.length cap us hLu (fun h0 => by rw [hnone h0]; rfl) hcells hone hmax (by rw [hib]; exact hlen) with
  ⟨g, cp, cur, e', hvx, hg, hroom, hr⟩ | ⟨hvx, hm, hr⟩ | ⟨nc, rest, hnc1, hnc2, hncl, hr⟩
 .
  obtain ⟨c, cur2, e2, hc1, hc2, hc3, hc4, hc5, hc6⟩ := hvb g cp hvx; rw [hg] at hc4; simp only [Xa, Obj.cells.injEq, and_true] at hc4; obtain ⟨rfl, rfl⟩ := hc4; have holds : cur.toList.take (xs.length * i.size) = olds := by
   rcases hv with ⟨h0, _⟩ | ⟨g', cp', cur', e'', h0, h1, _, _, h2⟩
   . rw [hvx] at h0; cases h0
   . rw [hvx] at h0; simp only [Value.slice.injEq, Xa, Addr.mk.injEq] at h0; obtain ⟨⟨rfl, _⟩, _⟩ := h0; rw [hg] at h1; simp only [Xa, Obj.cells.injEq, and_true] at h1; obtain ⟨rfl, rfl⟩ := h1; exact h2
  have hfit : (xs.length + ys.length) * i.size <= c * i.size := Xz _ (by omega); rw [Xs, <- hLu, hisz] at hfit; rw [hisz] at hr holds hvlen; refine hout _ (some (g, c)) _ hr (h.more q7x (by simp) (fun b _ hb => setRow_other w g b _ (fun he => hb c (by rw [he]))) (fun b c' hbc _ => by
   simp only [Xa, Xb] at hbc; rw [<- hbc.1]; exact ⟨hc5, hc6⟩) (fun ow' hA => ?_) rfl rfl ⟨rfl, fun _ => by first | exact Xe _ | exact X0 _⟩) ?_
  .
   refine .inr ⟨g, c, _, e', q1a _ _ _, setRow_heap w g cur _ e' (0, 0) hg, ?_, by rw [Xg]; omega, hc3, ?_⟩
   . simp only [List.size_toArray, Xg, X2, Yl, X7]; omega
   .
    have := hrows _ ow' g hA (fun j u hj => by
     rw [Xp, cell_setRow_same w g j cur _ e' (0, 0) hg]; simp only [Ye]; rw [holds, Xm (Xy.1 hj).1]; exact hj)
    exact q1r (Agree.refl _ _) _ _ (fun _ _ hx => hx) _ _ this
  . simp only [rep]; exact ⟨Xo _, .inr ⟨g, c, cp, ⟨g, 0, none⟩, q1a _ _ _, rfl, hroom, by omega, .inl (by simp)⟩⟩
 .
  have hys0 : ys = [] := Xh hm; have hxs0 : xs.length = 0 := by
   rcases hv with ⟨_, h0, _⟩ | ⟨g, cp, cur, e', h0, _⟩
   . exact h0
   . rw [hvx] at h0; cases h0
  have hxs0' : xs = [] := Xh hxs0; refine hout w none _ hr (h.more (q7x) (Xe _) (fun _ _ _ => rfl) (fun b c hbc => by cases hbc) (fun ow' _ => ?_) rfl rfl ⟨rfl, fun _ => by first | exact Xe _ | exact X0 _⟩) ?_
  . exact .inl ⟨q1a _ _ _, by rw [hys0, hxs0']; rfl⟩
  . simp only [rep]; exact ⟨Xo _, .inl ⟨q1a _ _ _, by trivial, by omega, by trivial⟩⟩
 .
  have hsz0 : w.heap.size <= (w.drew.alloc (.cells ⟨olds ++ us ++ rest⟩ e)).heap.size := by simp
  refine hout _ (some (w.heap.size, nc)) _ hr (h.more q7x hsz0 (fun b hb _ => Below.heap_alloc w.drew _ b hb) (fun b c hbc hb => by simp only [Xa, Xb] at hbc; omega) (fun ow' hA => ?_) rfl rfl ⟨rfl, fun _ => by first | exact Xe _ | exact X0 _⟩) ?_
  .
   refine .inr ⟨w.heap.size, nc, _, e, q1a _ _ _, heap_alloc_new w.drew _, ?_, by rw [Xg]; exact hnc1, hnc2, ?_⟩
   . rw [<- hisz, <- hncl]; simp
   .
    have := hrows _ ow' w.heap.size hA (fun j u hj => by
     rw [Xp, cell_of_row _ w.heap.size j _ e (0, 0) (heap_alloc_new w.drew _)]; simp only [Ye]; rw [Xm (Xy.1 hj).1]; exact hj)
    exact q1r (Agree.refl _ _) _ _ (fun _ _ hx => hx) _ _ this
  . simp only [rep]; exact ⟨Xo _, .inr ⟨w.heap.size, nc, nc, ⟨w.heap.size, 0, none⟩, q1a _ _ _, rfl, hnc1, by omega, .inl (by simp)⟩⟩
end
end
end Go.Proofs.YteibkihbdgphnaaGreat
