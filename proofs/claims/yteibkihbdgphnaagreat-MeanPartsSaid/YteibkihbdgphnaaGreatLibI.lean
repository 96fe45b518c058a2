/-
  What slices.Insert and slices.Delete do to rows of whatever type, walked once over the shelf's bodies. No condition beyond those that each theorem names.
-/
import Derived.Test.YteibkihbdgphnaaGreatLibD
import Derived.Shelf.Bodies2
import Derived.Shelf.SlGeneric
import Derived.Shelf.RegionOpenPlain
import Derived.WalkKit
import Derived.Lib.Walk
import Derived.Lib.SliceRun
import Derived.Lib.JoinLaws
import Derived.Lib.AppendZeros
import Derived.Lib.AppendZerosOnto
import Derived.Lib.Overlaps
import Derived.Laws.Externs
import Derived.Laws.IdiomCopy
import Derived.Laws.NewBlocks
import Derived.Deep.RegionLaw
set_option linter.unusedSimpArgs false
set_option linter.unusedVariables false
set_option linter.unusedSectionVars false
set_option linter.unusedVariables false
set_option linter.unusedSimpArgs false
open Nat renaming le_refl -> Xa, mul_le_mul_right -> Xb, add_assoc -> Xe, sub_mul -> Xg, add_mul -> Xi, zero_add -> Xj, min_def -> X1, min -> X2, mul_pos -> X5, le_succ -> X6
open List renaming getElem?_eq_some_iff -> Xc, getElem?_eq_getElem -> Xd, mem_of_mem_drop -> Xf, length_drop -> Xh, replicate -> Xk, mem_map_of_mem -> Xl, getElem?_take -> Xm, size_toArray -> Xo, length_take -> Xq, flatten_append -> Xr, getElem?_drop -> Xs, getElem?_append_right -> Xt, getElem?_append_left -> Xy, mem_map -> Xz, mem_append -> X0, mem_of_mem_take -> X3, append_assoc -> X4, nil_sublist -> X7
open Int renaming eq_ofNat_of_zero_le -> Xn, toNat_natCast -> Xw
open Option renaming some.injEq -> Xp
open Array renaming getElem?_append_left -> Xu, size_append -> Xv, getElem?_eq_getElem -> Xx
namespace Go.Proofs.YteibkihbdgphnaaGreat
open Go Go.RowKit Go.Lib Go.Shelf
section
variable {P : Program} {ρ : Ren}
theorem z10 {k : Nat} (w : World) (dT sT ty elem : TypeId) (b o dLen dCap : Nat) (a : Addr) (sLen sCap : Nat) (cs : List Value)
  (hu : P.underlying dT = some (.slice elem)) (hs : (P.info? elem).map (·.size) = some k) (hn : cs.length = X2 sLen dLen * k)
  (hsrc : ∀ j v, cs[j]? = some v -> w.cell? (a.add j) = some v) (hc : ∀ j, j < cs.length -> (w.cell? ⟨b, o + j, none⟩).isSome = true) (hf : ∀ j, j < cs.length -> w.frozen? ⟨b, o + j, none⟩ = false) (h1 : ∀ v ∈ cs, v.oneCell' = true) :
  (Builtin.copy_ #[dT, sT] ty #[.slice (some ⟨b, o, none⟩) dLen dCap, .slice (some a) sLen sCap]).run P w = .ok (goInt (X2 sLen dLen)) (w.setCells b o cs) := by
 have hl := run_loadCells_list (P := P) w a cs hsrc; have hst := run_storeCells_cells (P := P) b o cs 0 w (by simpa using hc) (by simpa using hf) h1
 cases hq : P.info? elem with
 | none => simp [hq] at hs
 | some i =>
  have hi : i.size = k := by simpa [hq] using hs
  simp [Builtin.copy_, run_underlying hu, Builtin.lenOf, Builtin.firstCells, sizeOf, typeInfo, hq, hi, <- hn, hl, hst]
theorem zh6 (w : World) {o : Oper} {a : Act} {K : Act -> World -> Prop} {Q : Exit -> Act -> World -> Prop} (d s : Operand) (t t' : TypeId)
  (ho : o.op = .call { callee := .builtin .copy, args := #[d, s], argTypes := #[t, t'] }) (v u : Value) (hd : a.eval d = v) (hs : a.eval s = u) {v' : Value} {w' : World}
  (hr : (Builtin.copy_ #[t, t'] o.type #[v, u]).run P w = .ok v' w') (h : K (a.put o.dst v') w') : o.wp P a w K Q := by
 unfold Oper.wp execOp; simp only [ho, resolve, invoke, builtin, Sem.run_bind, Sem.run_pure, Result.andThen_ok, List.map_toArray, List.map_cons, List.map_nil, hd, hs, hr]; exact h
theorem qn5 (w : World) {ops : Array Oper} {rest : List Oper} {o : Oper} {a : Act} {Q : Exit -> Act -> World -> Prop} (hgd : o.guard = none) (d s : Operand) (t t' : TypeId)
  (ho : o.op = .call { callee := .builtin .copy, args := #[d, s], argTypes := #[t, t'] }) (v u : Value) (hd : a.eval d = v) (hs : a.eval s = u) {v' : Value} {w' : World}
  (hr : (Builtin.copy_ #[t, t'] o.type #[v, u]).run P w = .ok v' w') (h : wpList P ops Q rest (a.put o.dst v') w') : wpList P ops Q (o :: rest) a w :=
 wpList_plain hgd fun _ hK => zh6 w d s t t' ho v u hd hs hr (hK _ _ h)
theorem z2a {ops : Array Oper} {o : Oper} {a : Act} {w : World} {K : Act -> World -> Prop} {Q : Exit -> Act -> World -> Prop} {E : Prop}
  (hg : o.guard = none) (d x : Operand) (dT sT : TypeId) (hop : o.op = Op.call { callee := Callee.builtin Builtin.copy, args := #[d, x], argTypes := #[dT, sT] })
  (v u : Value) (hd : a.eval d = v) (hx : a.eval x = u) {v' : Value} {w' : World} (hr : (Builtin.copy_ #[dT, sT] o.type #[v, u]).run P w = .ok v' w') (hK : K (a.put o.dst v') w') :
  if Region.wanted o (yielded ops a.tmps) = true then Oper.wp P o a w K Q else E := by
 have hw : Region.wanted o (yielded ops a.tmps) = true := by simp [Region.wanted, hg]
 rw [if_pos hw]; unfold Oper.wp; simp [execOp, hop, resolve, invoke, builtin, hd, hx, hr, Result.andThen]; exact hK
theorem qa6 (b : Nat) (vs : List Value) (o : Nat) (w : World) (h : ∀ j, j < vs.length -> (w.cell? ⟨b, o + j, none⟩).isSome = true) (k : Nat) (hk : (w.cell? ⟨b, k, none⟩).isSome = true) : ((w.setCells b o vs).cell? ⟨b, k, none⟩).isSome = true := by
 by_cases hin : o <= k /\ k < o + vs.length
 . have := World.cell?_setCells_in b vs o w h (k - o) (by omega); rw [show o + (k - o) = k by omega] at this; rw [this]; rfl
 . rw [World.cell?_setCells_out b vs o w ⟨b, k, none⟩ (fun _ _ => by show k < o \/ o + vs.length <= k; omega)]; exact hk
structure InsLay (P : Program) (ρ : Ren) (k bytes : Nat) (z : Value) : Prop where
 mixed : P.follows .mixedOrders = true
 f22 : Bears P (ρ.f 22) (Body2.n22 ρ)
 ov : ∃ fn, P.funcs[ρ.f 29]? = some fn /\ (fn.name == "runtime.NumGoroutine") = false /\ fn.body.isNone = true /\ Extern.findNext fn = none /\ Extern.find fn = some (Extern.SlicesOverlaps.overlaps #[ρ.t 24, ρ.t 24] #[ρ.t 4])
 t0 : P.underlying (ρ.t 0) = some (TypeDesc.tuple #[])
 a0 : ∀ w, (isAgg (ρ.t 0)).run P w = .ok false w
 z0 : ∀ w, (Go.sizeOf (ρ.t 0)).run P w = .ok 1 w
 v0 : ∀ w, (zeroValue (ρ.t 0)).run P w = .ok (Value.tuple #[]) w
 t3 : P.underlying (ρ.t 3) = some (TypeDesc.int IntKind.i64)
 a3 : ∀ w, (isAgg (ρ.t 3)).run P w = .ok false w
 z3 : ∀ w, (Go.sizeOf (ρ.t 3)).run P w = .ok 1 w
 v3 : ∀ w, (zeroValue (ρ.t 3)).run P w = .ok (Value.int IntKind.i64 0) w
 t4 : P.underlying (ρ.t 4) = some (TypeDesc.bool)
 a4 : ∀ w, (isAgg (ρ.t 4)).run P w = .ok false w
 z4 : ∀ w, (Go.sizeOf (ρ.t 4)).run P w = .ok 1 w
 v4 : ∀ w, (zeroValue (ρ.t 4)).run P w = .ok (Value.bool false) w
 z9 : ∀ w, (Go.sizeOf (ρ.t 9)).run P w = .ok k w
 t24 : P.underlying (ρ.t 24) = some (TypeDesc.slice (ρ.t 9))
 a24 : ∀ w, (isAgg (ρ.t 24)).run P w = .ok false w
 z24 : ∀ w, (Go.sizeOf (ρ.t 24)).run P w = .ok 1 w
 v24 : ∀ w, (zeroValue (ρ.t 24)).run P w = .ok (Value.slice none 0 0) w
 i9 : ∃ i, P.info? (ρ.t 9) = some i /\ i.zero = some z /\ i.size = k /\ i.bytes = bytes
set_option maxHeartbeats 4000000 in
set_option maxRecDepth 100000 in
theorem zm0 {k bytes : Nat} {z : Value} (L : InsLay P ρ k bytes z) (b off n c i vb voff m vc : Nat) (cs vs : List Value) (w : World) (hk : 0 < k) (hi : i < n) (hm : 0 < m) (hroom : n + m <= c) (hc63 : c <= 9223372036854775807) (hvb : vb ≠ b)
  (hcl : cs.length = n * k) (hvl : vs.length = m * k)
  (hcs : ∀ j v, cs[j]? = some v -> w.cell? ⟨b, off + j, none⟩ = some v) (hsp : ∀ j, j < (n + m) * k -> (w.cell? ⟨b, off + j, none⟩).isSome = true) (hfz : ∀ j, j < (n + m) * k -> w.frozen? ⟨b, off + j, none⟩ = false)
  (hvs : ∀ j v, vs[j]? = some v -> w.cell? ⟨vb, voff + j, none⟩ = some v) (h1c : ∀ v ∈ cs, v.oneCell' = true) (h1v : ∀ v ∈ vs, v.oneCell' = true)
  (tA tB : TypeId) (kA kB : Nat) (hsa : w.shape? vb = some (tA, kA)) (hsb : w.shape? b = some (tB, kB)) (hkB : kB ≠ 0) (hfa : w.frozen? ⟨vb, voff, none⟩ = false) (hfe : w.frozen? ⟨vb, kA, none⟩ = false) :
  Calls P (ρ.f 22) #[.slice (some ⟨b, off, none⟩) n c, .int .i64 i, .slice (some ⟨vb, voff, none⟩) m vc] w fun e w' =>
   e = .returned (.slice (some ⟨b, off, none⟩) (n + m) c) /\ w' = (w.drew.setCells b (off + (i + m) * k) (cs.drop (i * k))).setCells b (off + i * k) vs := by
 have t0 := L.t0; have a0 := L.a0; have z0 := L.z0; have v0 := L.v0; have t3 := L.t3; have a3 := L.a3; have z3 := L.z3; have v3 := L.v3; have t4 := L.t4; have a4 := L.a4; have z4 := L.z4; have v4 := L.v4; have z9 := L.z9; have t24 := L.t24; have a24 := L.a24; have z24 := L.z24; have v24 := L.v24; have u0 := run_underlying L.t0; have u3 := run_underlying L.t3; have u4 := run_underlying L.t4; have u24 := run_underlying L.t24; have hz1 : ¬ ((m : Int) = 0) := by omega
 have hz2 : ¬ ((i : Int) = (n : Int)) := by omega
 have hsz : (P.info? (ρ.t 9)).map (·.size) = some k := by
  obtain ⟨i0, hi0, h0, h1, h2⟩ := L.i9; rw [hi0]; simp [h1]
 obtain ⟨fo, fo1, fo2, fo3, fo4, fo5⟩ := L.ov; have hov : ∀ lb cb, (callFunc (ρ.f 29) #[.slice (some ⟨vb, voff, none⟩) m vc, .slice (some ⟨b, off + (i + m) * k, none⟩) lb cb]).run P w = .ok (.value (.bool false)) w := fun lb cb => by
  rw [run_callFunc_extern fo1 fo2 fo3 fo4 fo5,
   Lib.run_overlaps_apart w (ρ.t 24) (ρ.t 4) (ρ.t 9) L.t24 k L.z9 ⟨vb, voff, none⟩ ⟨b, off + (i + m) * k, none⟩ m vc lb cb hvb tA tB kA kB hsa hsb hkB hfa hfe]
  rfl
 clear fo5 fo4 fo3 fo2 fo1; have hdl : (cs.drop (i * k)).length = (n - i) * k := by rw [Xh, hcl, Xg]
 have hik : (i + m) * k = i * k + m * k := Xi _ _ _; have hnk : (n + m) * k = n * k + m * k := Xi _ _ _; have hle : i * k <= n * k := Xb _ (by omega); have hnik : (n - i) * k = n * k - i * k := Xg _ _ _; have mixed := L.mixed; have hw1 : IntKind.i64.wrap ((i : Int) + (m : Int)) = (i : Int) + (m : Int) := by rw [IntKind.wrap_i64]; omega
 have hb1 : (0 : Int) <= (i : Int) + (m : Int) := by omega
 have hin : i <= n := by omega
 have htn : ((i : Int) + (m : Int)).toNat = i + m := by omega
 have hb2 : ¬ (c = i + m) := by omega
 have hb3 : (i : Int) <= (n : Int) + (m : Int) := by omega
 have hb4 : ¬ (c = i) := by omega
 have hmin1 : X2 (n + m - i) (n + m - (i + m)) = n - i := by simp only [X1]; split <;> omega
 have hmin2 : X2 m (n + m - i) = m := by simp only [X1]; split <;> omega
 have hcp1 : ∀ ty dc sc, (Builtin.copy_ #[(ρ.t 24), (ρ.t 24)] ty #[.slice (some ⟨b, off + (i + m) * k, none⟩) (n + m - (i + m)) dc, .slice (some ⟨b, off + i * k, none⟩) (n + m - i) sc]).run P w.drew = .ok (goInt ((n - i : Nat) : Int)) (w.drew.setCells b (off + (i + m) * k) (cs.drop (i * k))) := fun ty dc sc => by
  have := z10 (k := k) w.drew (ρ.t 24) (ρ.t 24) ty (ρ.t 9) b (off + (i + m) * k) (n + m - (i + m)) dc ⟨b, off + i * k, none⟩ (n + m - i) sc (cs.drop (i * k)) L.t24 hsz (by rw [hdl, hmin1])
   (fun j v hj => by rw [Addr.add_lit, Xe]; exact hcs (i * k + j) v (by rwa [Xs] at hj))
   (fun j hj => by rw [Xe]; exact hsp _ (by omega)) (fun j hj => by rw [Xe]; exact hfz _ (by omega)) (fun v hv => h1c v (Xf hv))
  rw [hmin1] at this; exact this
 obtain ⟨W1, hW1⟩ : ∃ W1, W1 = w.drew.setCells b (off + (i + m) * k) (cs.drop (i * k)) := ⟨_, rfl⟩; have hsp1 : ∀ j, j < (n + m) * k -> (W1.cell? ⟨b, off + j, none⟩).isSome = true := fun j hj => by
  rw [hW1]; exact qa6 b _ _ _ (fun j hj => by rw [Xe]; exact hsp _ (by omega)) _ (hsp j hj)
 have hcp2 : ∀ (W : World), (∀ x, W.cell? x = W1.cell? x) -> (∀ x, W.frozen? x = W1.frozen? x) -> ∀ ty dc, (Builtin.copy_ #[(ρ.t 24), (ρ.t 24)] ty #[.slice (some ⟨b, off + i * k, none⟩) (n + m - i) dc, .slice (some ⟨vb, voff, none⟩) m vc]).run P W = .ok (goInt m) (W.setCells b (off + i * k) vs) := fun W hWc hWf ty dc => by
  have := z10 (k := k) W (ρ.t 24) (ρ.t 24) ty (ρ.t 9) b (off + i * k) (n + m - i) dc ⟨vb, voff, none⟩ m vc vs L.t24 hsz (by rw [hvl, hmin2])
   (fun j v hj => by
    rw [Addr.add_lit, hWc, hW1, World.cell?_setCells_out b _ _ _ _ (fun h _ => absurd h hvb)]; exact hvs j v hj)
   (fun j hj => by rw [hWc, Xe]; exact hsp1 _ (by omega)) (fun j hj => by rw [hWf, hW1, World.frozen?_setCells, Xe]; exact hfz _ (by omega)) h1v
  rw [hmin2] at this; exact this
 rw [<- hW1] at hcp1; clear hsz hdl hik hnk hle hnik hmin1 hmin2 hsp1; obtain ⟨_, _, FG⟩ := L.f22
 go_enter FG, Body2.n22_ntmps ρ
 go_wp2_with (simp only [hov])
 go_region_law_o (refine z2a rfl _ _ (ρ.t 24) (ρ.t 24) rfl _ _ (by simp [Act.eval, Act.put]) (by simp [Act.eval, Act.put]) (hcp1 _ _ _) ?_)
 go_wp2_with (at_builtin; refine qn5 _ rfl _ _ (ρ.t 24) (ρ.t 24) rfl _ _ rfl rfl (hcp2 _ (fun _ => rfl) (fun _ => rfl) _ _) ?_)
 go_ret
 first | exact ⟨rfl, rfl⟩ | exact ⟨rfl, by rw [hW1]⟩
set_option maxHeartbeats 4000000 in
set_option maxRecDepth 100000 in
theorem j01 {k bytes : Nat} {z : Value} (L : InsLay P ρ k bytes z) (base : Option Addr) (n c vb voff m vc : Nat) (w : World) (hm : 0 < m) (hnc : n <= c) (hnil : base = none -> n = 0)
  {rv : Value} {w1 : World} (hrun : ∀ ty, (Builtin.append_ #[(ρ.t 24), (ρ.t 24)] ty #[.slice base n c, .slice (some ⟨vb, voff, none⟩) m vc]).run P w = .ok rv w1) :
  Calls P (ρ.f 22) #[.slice base n c, .int .i64 n, .slice (some ⟨vb, voff, none⟩) m vc] w fun e w' => e = .returned rv /\ w' = w1 := by
 have t0 := L.t0; have a0 := L.a0; have z0 := L.z0; have v0 := L.v0; have t3 := L.t3; have a3 := L.a3; have z3 := L.z3; have v3 := L.v3; have t4 := L.t4; have a4 := L.a4; have z4 := L.z4; have v4 := L.v4; have z9 := L.z9; have t24 := L.t24; have a24 := L.a24; have z24 := L.z24; have v24 := L.v24; have u0 := run_underlying L.t0; have u3 := run_underlying L.t3; have u4 := run_underlying L.t4; have u24 := run_underlying L.t24; have mixed := L.mixed; have hz1 : ¬ ((m : Int) = 0) := by omega
 obtain ⟨_, _, FG⟩ := L.f22
 go_enter FG, Body2.n22_ntmps ρ
 cases base with
 | none =>
  have h0 := hnil rfl; subst h0
  go_wp2_with (at_builtin; refine Lib.wpList_append_run _ rfl _ _ _ _ rfl _ _ rfl rfl _ _ (hrun _) ?_)
  all_goals (go_ret; exact ⟨rfl, rfl⟩)
 | some a =>
  obtain ⟨ab, ao, asp⟩ := a
  go_wp2_with (at_builtin; refine Lib.wpList_append_run _ rfl _ _ _ _ rfl _ _ rfl rfl _ _ (hrun _) ?_)
  all_goals (go_ret; exact ⟨rfl, rfl⟩)
set_option maxHeartbeats 4000000 in
set_option maxRecDepth 100000 in
theorem zr5 {k bytes : Nat} {z : Value} (L : InsLay P ρ k bytes z) (b off n c i vb voff m vc : Nat) (cs vs : List Value) (w : World) (hk : 0 < k) (hzk : z.cells.size = k) (hi : i < n) (hm : 0 < m) (hnc : n <= c) (hroom : c < n + m) (hbig : (n + m) * bytes <= 140737488355328) (h63 : n + m <= maxLen)
  (hcl : cs.length = n * k) (hvl : vs.length = m * k)
  (hcs : ∀ j v, cs[j]? = some v -> w.cell? ⟨b, off + j, none⟩ = some v)
  (hvs : ∀ j v, vs[j]? = some v -> w.cell? ⟨vb, voff + j, none⟩ = some v) (h1c : ∀ v ∈ cs, v.oneCell' = true) (h1v : ∀ v ∈ vs, v.oneCell' = true) :
  Calls P (ρ.f 22) #[.slice (some ⟨b, off, none⟩) n c, .int .i64 i, .slice (some ⟨vb, voff, none⟩) m vc] w fun e w' =>
   e = .returned (.slice (some ⟨w.heap.size, 0, none⟩) (n + m) (grownCap w (n + m) c (ρ.t 9))) /\
   w' = (((w.alloc (.cells ((cs.take (i * k)).toArray ++ Builtin.zeroCells z.cells (n + m - i) ++ Builtin.zeroCells z.cells (grownCap w (n + m) c (ρ.t 9) - (n + m))) (ρ.t 9))).drew.setCells w.heap.size (i * k) vs).drew).setCells w.heap.size ((i + m) * k) (cs.drop (i * k)) := by
 have t0 := L.t0; have a0 := L.a0; have z0 := L.z0; have v0 := L.v0; have t3 := L.t3; have a3 := L.a3; have z3 := L.z3; have v3 := L.v3; have t4 := L.t4; have a4 := L.a4; have z4 := L.z4; have v4 := L.v4; have z9 := L.z9; have t24 := L.t24; have a24 := L.a24; have z24 := L.z24; have v24 := L.v24; have u0 := run_underlying L.t0; have u3 := run_underlying L.t3; have u4 := run_underlying L.t4; have u24 := run_underlying L.t24; have mixed := L.mixed; obtain ⟨i0, hi0, hz0, hzs, hzb⟩ := L.i9; have hz1 : ¬ ((m : Int) = 0) := by omega
 have hz2 : ¬ ((i : Int) = (n : Int)) := by omega
 have hz3 : (c : Int) < (n : Int) + (m : Int) := by omega
 have hsz : (P.info? (ρ.t 9)).map (·.size) = some k := by rw [hi0]; simp [hzs]
 have hck : 0 < n * k := X5 (by omega) hk; have hmk : 0 < m * k := X5 hm hk; have hbw : b < w.heap.size := block_lt_of_cell (hcs 0 _ (Xd (by omega))); have hvw : vb < w.heap.size := block_lt_of_cell (hvs 0 _ (Xd (by omega))); have hkk : (n : Int) + (m : Int) - (i : Int) = ((n + m - i : Nat) : Int) := by omega
 have hik : i + (n + m - i) = n + m := by omega
 have e1 : (i + m) * k = i * k + m * k := Xi _ _ _; have e2 : (n + m) * k = n * k + m * k := Xi _ _ _; have e3 : i * k <= n * k := Xb _ (by omega); have e4 : (n - i) * k = n * k - i * k := Xg _ _ _; have hold : (Builtin.firstCells i0.size i (.slice (some ⟨b, off, none⟩) i c)).run P w.drew = .ok (cs.take (i * k)).toArray w.drew := by
  rw [hzs]; exact run_firstCells_some w.drew k i ⟨b, off, none⟩ i c (cs.take (i * k)) (by rw [Xq]; omega) (fun j v hj => by
   rw [Addr.add_lit]; rw [Xm] at hj
   split at hj
   . exact hcs j v hj
   . cases hj)
 have hrz : ∀ ty, (Builtin.append_ #[(ρ.t 24), (ρ.t 3)] ty #[.slice (some ⟨b, off, none⟩) i c, .int .i64 ((n : Int) + (m : Int) - (i : Int))]).run P w =
   .ok (.slice (some ⟨w.heap.size, 0, none⟩) (n + m) (grownCap w (n + m) c (ρ.t 9))) (w.drew.alloc (.cells ((cs.take (i * k)).toArray ++ Builtin.zeroCells z.cells (n + m - i) ++ Builtin.zeroCells z.cells (grownCap w (n + m) c (ρ.t 9) - (n + m))) (ρ.t 9))) := fun ty => by
  have hb2 : (n + m - i) * bytes <= 140737488355328 := Nat.le_trans (Xb _ (by omega)) hbig; have h := Lib.run_append_grow_zeros w (ρ.t 24) (ρ.t 3) ty (ρ.t 9) i0 _ .i64 .i64 L.t24 L.t3 hi0 hz0 (some ⟨b, off, none⟩) i c (cs.take (i * k)) hold (n + m - i) (by omega) (by omega) (by omega) (by unfold maxLen at h63; omega) (by rw [hzb]; omega) (by rw [hzb, hik]; exact growslice_fits hroom hbig); rw [hik] at h; rw [hkk]; exact h
 obtain ⟨G, hG⟩ : ∃ G, G = grownCap w (n + m) c (ρ.t 9) := ⟨_, rfl⟩; obtain ⟨ROW, hROW⟩ : ∃ ROW : Array Value, ROW = (cs.take (i * k)).toArray ++ Builtin.zeroCells z.cells (n + m - i) ++ Builtin.zeroCells z.cells (G - (n + m)) := ⟨_, rfl⟩; rw [<- hG] at hrz ⊢; rw [<- hROW] at hrz ⊢; have hRl : (n + m) * k <= ROW.size := by
  rw [hROW]; have : (n + m - i) * k = (n + m) * k - i * k := Xg _ _ _; simp only [Xv, Xo, Xq, size_zeroCells, hzk]; omega
 obtain ⟨W1, hW1⟩ : ∃ W1, W1 = w.drew.alloc (.cells ROW (ρ.t 9)) := ⟨_, rfl⟩; rw [<- hW1] at hrz; have hN : ∀ j, j < (n + m) * k -> (W1.cell? ⟨w.heap.size, j, none⟩).isSome = true := fun j hj => by
  rw [hW1, World.cell?_alloc_at (w := w.drew) ROW _ w.heap.size j rfl, Xx (by omega)]; rfl
 have hNf : ∀ j, W1.frozen? ⟨w.heap.size, j, none⟩ = false := fun j => by rw [hW1]; exact World.frozen?_alloc_at (w := w.drew) ROW _ w.heap.size j rfl
 have hOb : ∀ j v, w.cell? ⟨b, j, none⟩ = some v -> W1.cell? ⟨b, j, none⟩ = some v := fun j v h => by rw [hW1, World.cell?_alloc_past (w := w.drew) _ b j hbw]; exact h
 have hOv : ∀ j v, w.cell? ⟨vb, j, none⟩ = some v -> W1.cell? ⟨vb, j, none⟩ = some v := fun j v h => by rw [hW1, World.cell?_alloc_past (w := w.drew) _ vb j hvw]; exact h
 have hmin1 : X2 m (n + m - i) = m := by simp only [X1]; split <;> omega
 have hmin2 : X2 (n - i) (n + m - (i + m)) = n - i := by simp only [X1]; split <;> omega
 have hcpA : ∀ (W : World), (∀ x, W.cell? x = W1.cell? x) -> (∀ x, W.frozen? x = W1.frozen? x) -> ∀ ty dc, (Builtin.copy_ #[(ρ.t 24), (ρ.t 24)] ty #[.slice (some ⟨w.heap.size, i * k, none⟩) (n + m - i) dc, .slice (some ⟨vb, voff, none⟩) m vc]).run P W = .ok (goInt m) (W.setCells w.heap.size (i * k) vs) := fun W hWc hWf ty dc => by
  have := z10 (k := k) W (ρ.t 24) (ρ.t 24) ty (ρ.t 9) w.heap.size (i * k) (n + m - i) dc ⟨vb, voff, none⟩ m vc vs L.t24 hsz (by rw [hvl, hmin1])
   (fun j v hj => by rw [Addr.add_lit, hWc]; exact hOv _ v (hvs j v hj))
   (fun j hj => by rw [hWc]; exact hN _ (by omega)) (fun j hj => by rw [hWf]; exact hNf _) h1v
  rw [hmin1] at this; exact this
 have hGn : n + m <= G := by rw [hG]; exact grownCap_ge w _ _ _
 have hG63 : G <= 9223372036854775807 := by
  have := grownCap_le_maxLen w (n + m) c (ρ.t 9) h63; rw [<- hG] at this; unfold maxLen at this; omega
 have hGi : ¬ (G = i) := by omega
 have hGim : ¬ (G = i + m) := by omega
 have hci : ¬ (c = i) := by omega
 have hbN : b ≠ w.heap.size := by omega
 have hdl : (cs.drop (i * k)).length = (n - i) * k := by rw [Xh, hcl, e4]
 have hcpB : ∀ (W : World), (∀ x, W.cell? x = (W1.setCells w.heap.size (i * k) vs).cell? x) -> (∀ x, W.frozen? x = (W1.setCells w.heap.size (i * k) vs).frozen? x) -> ∀ ty dc sc, (Builtin.copy_ #[(ρ.t 24), (ρ.t 24)] ty #[.slice (some ⟨w.heap.size, (i + m) * k, none⟩) (n + m - (i + m)) dc, .slice (some ⟨b, off + i * k, none⟩) (n - i) sc]).run P W = .ok (goInt ((n - i : Nat) : Int)) (W.setCells w.heap.size ((i + m) * k) (cs.drop (i * k))) := fun W hWc hWf ty dc sc => by
  have := z10 (k := k) W (ρ.t 24) (ρ.t 24) ty (ρ.t 9) w.heap.size ((i + m) * k) (n + m - (i + m)) dc ⟨b, off + i * k, none⟩ (n - i) sc (cs.drop (i * k)) L.t24 hsz (by rw [hdl, hmin2])
   (fun j v hj => by
    rw [Addr.add_lit, hWc, World.cell?_setCells_out w.heap.size _ _ _ _ (fun h _ => absurd h hbN), Xe]; exact hOb _ v (hcs (i * k + j) v (by rwa [Xs] at hj)))
   (fun j hj => by rw [hWc]; exact qa6 _ _ _ _ (fun t ht => hN _ (by omega)) _ (hN _ (by omega)))
   (fun j hj => by rw [hWf, World.frozen?_setCells]; exact hNf _) (fun v hv => h1c v (Xf hv))
  rw [hmin2] at this; exact this
 subst hW1; have hE1 : ∀ x, ((w.alloc (.cells ROW (ρ.t 9))).drew).cell? x = (w.drew.alloc (.cells ROW (ρ.t 9))).cell? x := fun x => rfl; have hE2 : ∀ x, ((w.alloc (.cells ROW (ρ.t 9))).drew).frozen? x = (w.drew.alloc (.cells ROW (ρ.t 9))).frozen? x := fun x => rfl; have hF1 : ∀ x, (((w.alloc (.cells ROW (ρ.t 9))).drew.setCells w.heap.size (i * k) vs).drew).cell? x = ((w.drew.alloc (.cells ROW (ρ.t 9))).setCells w.heap.size (i * k) vs).cell? x := fun x => rfl; have hF2 : ∀ x, (((w.alloc (.cells ROW (ρ.t 9))).drew.setCells w.heap.size (i * k) vs).drew).frozen? x = ((w.drew.alloc (.cells ROW (ρ.t 9))).setCells w.heap.size (i * k) vs).frozen? x := fun x => rfl; have hw1 : IntKind.i64.wrap ((i : Int) + (m : Int)) = (i : Int) + (m : Int) := by rw [IntKind.wrap_i64]; unfold maxLen at h63; omega
 have hw2 : IntKind.i64.wrap ((n : Int) + (m : Int)) = (n : Int) + (m : Int) := by rw [IntKind.wrap_i64]; unfold maxLen at h63; omega
 have hw3 : IntKind.i64.wrap ((n : Int) + (m : Int) - (i : Int)) = (n : Int) + (m : Int) - (i : Int) := by rw [IntKind.wrap_i64]; unfold maxLen at h63; omega
 have hb1 : (0 : Int) <= (i : Int) + (m : Int) := by omega
 have hin : i <= n := by omega
 have htn : ((i : Int) + (m : Int)).toNat = i + m := by omega
 have hb3 : (i : Int) <= (n : Int) := by omega
 clear hkk hik hold hROW hG hRl e1 e2 e3 e4 hdl hmin1 hmin2 hck hmk hsz hN hNf hOb hOv; obtain ⟨_, _, FG⟩ := L.f22
 go_enter FG, Body2.n22_ntmps ρ
 go_wp2_with (first
  | (at_builtin; refine Lib.wpList_append_run _ rfl _ _ _ _ rfl _ _ rfl rfl _ _ (hrz _) ?_)
  | (at_builtin; refine qn5 _ rfl _ _ (ρ.t 24) (ρ.t 24) rfl _ _ rfl rfl (hcpA _ hE1 hE2 _ _) ?_)
  | (at_builtin; refine qn5 _ rfl _ _ (ρ.t 24) (ρ.t 24) rfl _ _ rfl rfl (hcpB _ (fun _ => rfl) (fun _ => rfl) _ _ _) ?_))
 go_region_law_o (refine z2a rfl _ _ (ρ.t 24) (ρ.t 24) rfl (.slice (some ⟨w.heap.size, (i + m) * k, none⟩) (n + m - (i + m)) (G - (i + m))) (.slice (some ⟨b, off + i * k, none⟩) (n - i) (c - i)) (by simp [Act.eval, Act.put]) (by simp [Act.eval, Act.put]) (hcpB _ hF1 hF2 (ρ.t 3) (G - (i + m)) (c - i)) ?_)
 go_wp2
 go_ret
 exact ⟨rfl, rfl⟩
end
end Go.Proofs.YteibkihbdgphnaaGreat
set_option linter.unusedVariables false
set_option linter.unusedSimpArgs false
namespace Go.Proofs.YteibkihbdgphnaaGreat
open Go Go.RowKit Go.Lib Go.Shelf
section
variable {P : Program} {ρ : Ren}
def z9y {α : Type} (bytes : Nat) (xs : List α) (i : Int) (vs : List α) : Option (List α) :=
 q03 (0 <= i /\ i <= xs.length /\ 0 < vs.length /\ (xs.length + vs.length) * bytes <= 140737488355328 /\ xs.length + vs.length <= maxLen) (some (xs.take i.toNat ++ vs ++ xs.drop i.toNat))
theorem q6q (b : Nat) : ∀ (vs : List Value) (o : Nat) (w : World), (w.setCells b o vs).os = w.os /\ (w.setCells b o vs).tape = w.tape /\ (w.setCells b o vs).output = w.output /\ (w.setCells b o vs).drawn = w.drawn /\ (w.setCells b o vs).heap.size = w.heap.size /\ ∀ k, k ≠ b -> (w.setCells b o vs).heap[k]? = w.heap[k]?
 | [], _, w => ⟨rfl, rfl, rfl, rfl, rfl, fun _ _ => rfl⟩
 | v :: r, o, w => by
  obtain ⟨h1, h2, h3, h4, h5, h6⟩ := q6q b r (o + 1) (w.setCell ⟨b, o, none⟩ v); rw [World.setCells]; refine ⟨h1, h2, h3, h4, by rw [h5]; simp [World.setCell], fun k hk => (h6 k hk).trans ?_⟩; simp [World.setCell, Array.getElem?_modify, Ne.symm hk]
theorem q7h (b : Nat) : ∀ (vs : List Value) (o : Nat) (w : World) (cur : Array Value) (e : TypeId), w.heap[b]? = some (.cells cur e (0, 0)) -> ∃ cur', (w.setCells b o vs).heap[b]? = some (.cells cur' e (0, 0)) /\ cur'.size = cur.size
 | [], _, w, cur, e, h => ⟨cur, h, rfl⟩
 | v :: r, o, w, cur, e, h => by
  rw [World.setCells, setCell_eq_setRow w b o cur e (0, 0) v h]; obtain ⟨cur', h1, h2⟩ := q7h b r (o + 1) _ _ e (setRow_heap w b cur (cur.setIfInBounds o v) e (0, 0) h); exact ⟨cur', h1, by rw [h2]; simp⟩
theorem qa3 {w : World} {b : Nat} {cur : Array Value} {e : TypeId} (h : w.heap[b]? = some (.cells cur e (0, 0))) {j : Nat} (hj : j < cur.size) : (w.cell? ⟨b, j, none⟩).isSome = true := by
 rw [cell_of_row w b j cur e (0, 0) h, Xx hj]; rfl
theorem z16 {w : World} {b : Nat} {cur : Array Value} {e : TypeId} (h : w.heap[b]? = some (.cells cur e (0, 0))) (j : Nat) : w.frozen? ⟨b, j, none⟩ = false := by
 unfold World.frozen?; rw [h]; simp
theorem cells3 {w : World} {b : Nat} {A B D : List Value} (h1 : ∀ (j : Nat) (u : Value), A[j]? = some u -> w.cell? ⟨b, j, none⟩ = some u) (h2 : ∀ (j : Nat) (u : Value), B[j]? = some u -> w.cell? ⟨b, A.length + j, none⟩ = some u)
  (h3 : ∀ (j : Nat) (u : Value), D[j]? = some u -> w.cell? ⟨b, A.length + B.length + j, none⟩ = some u) : ∀ (j : Nat) (u : Value), (A ++ B ++ D)[j]? = some u -> w.cell? ⟨b, 0 + j, none⟩ = some u := by
 intro j u hj; rw [Xj]; rcases Nat.lt_or_ge j A.length with hlt | hge
 . rw [X4, Xy hlt] at hj; exact h1 j u hj
 .
  rw [X4, Xt hge] at hj; rcases Nat.lt_or_ge (j - A.length) B.length with hlt | hge2
  .
   rw [Xy hlt] at hj; have := h2 _ u hj
   rwa [show A.length + (j - A.length) = j by omega] at this
  .
   rw [Xt hge2] at hj; have := h3 _ u hj
   rwa [show A.length + B.length + (j - A.length - B.length) = j by omega] at this
theorem zf0 {f : FuncId} {B : Func} (h : Bears P f B) (hb : B.body.isSome = true) : q00 P f = true := by
 obtain ⟨nm, h1, h2⟩ := h; unfold q00; rw [h2]; simp only [h1, hb, Bool.not_false, Bool.and_self]
theorem z5s {w w' : World} {β : Ghost} {A : Nat -> Prop} {hp : Hp} {n k : Nat} (hA : ∀ b, A b -> b < w.heap.size) (hgs : GS P w β hp) (hhp : HpRel w β n A hp) {xs : List (List AV)} {b C : Nat} {cur : Array Value} {e : TypeId} (hsz : w.heap.size <= w'.heap.size) (hother : ∀ b', b' < w.heap.size -> b' ≠ b -> w'.heap[b']? = w.heap[b']?)
  (hb : b < w.heap.size -> blks β hp b) (hheap : w'.heap[b]? = some (.cells cur e (0, 0))) (hcs : cur.size = C * k) (hxc : xs.length <= C) (hCm : C <= maxLen) {vs : List Value} (hrep : x9 w β 0 (own β hp A) xs.flatten vs) (hxl : ∀ r ∈ xs, r.length = k) (hone : ∀ u ∈ vs, u.oneCell' = true)
  (hcell : ∀ (j : Nat) (u : Value), vs[j]? = some u -> w'.cell? ⟨b, 0 + j, none⟩ = some u) (h1 : w'.os = w.os) (h2 : w'.tape = w.tape) (h3 : w'.output = w.output /\ (dkF = true -> w.drawn <= w'.drawn)) {cap : Nat} (hlc : xs.length <= cap) (hcC : cap <= C) :
  ∃ β', rep w' β' (n + 1) (own β' [(n, .arr k xs)] A) (.osl n k 0 xs.length) (.slice (some ⟨b, 0, none⟩) xs.length cap) /\ HpRel w' β' (n + 1) A [(n, .arr k xs)] /\ Ext w β n hp w' β' (n + 1) [(n, .arr k xs)] := by
 have hR : Rel (P := P) ⟨w, β, n, hp, A, 0⟩ ⟨n, [], hp, n, 0⟩ { tmps := #[], defers := [] } w β :=
  { df := rfl, nt := rfl, ntc := rfl, nb := rfl, alt := hA, gs := hgs, hp := hhp, ext := { nx := Xa _, gh := fun _ _ => rfl, gi := fun _ _ _ => rfl, ids := fun p hp' => .inl (Xl hp'), blk := fun p hp' b hbc => .inl ⟨p, hp', hbc⟩, os := rfl, tape := rfl, output := ⟨rfl, fun _ => Xa _⟩, size := Xa _, keep := fun _ _ _ => rfl }, env := fun t => by simp only [q0u, rep] }
 have := hR.more (w' := w') (bc := some (b, C)) (o := .arr k xs) (hp1 := []) (X7 _) hsz (fun b' hb' hne => hother b' hb' (fun e => hne C (by rw [e]))) (fun b' c hbc hlt => by
  simp only [Xp, Prod.mk.injEq] at hbc; rw [<- hbc.1] at hlt ⊢; exact ⟨hb hlt, by rintro ⟨q, hq, _⟩; cases hq⟩) (fun ow' hAg => by
  refine .inr ⟨b, C, cur, e, q1a _ _ _, hheap, hcs, hxc, hCm, ?_⟩; refine q5m hxl ?_ hone hcell; exact q1h hAg 0 0 (Xa _) (fun _ hi => absurd hi (Nat.not_lt_zero _)) _ _ hrep) h1 h2 h3
 refine ⟨upd β n (some (b, C)), ?_, this.hp, this.ext⟩; simp only [rep]; exact ⟨Nat.lt_succ_self _, .inr ⟨b, C, cap, ⟨b, 0, none⟩, q1a _ _ _, rfl, hlc, by omega, .inl (by simp)⟩⟩
theorem j7n {t : TypeId} {k : Nat} {e : TypeId} {zs : List Value} {w : World} {β : Ghost} {A : Nat -> Prop} {xs ys : List (List AV)} {u1 u2 : Value} (hA : ∀ b, A b -> b < w.heap.size) (hgs : GS P w β [(0, .arr k xs), (1, .arr k ys)]) (hhp : HpRel w β 2 A [(0, .arr k xs), (1, .arr k ys)])
    (h1 : rep w β 2 (own β [(0, .arr k xs), (1, .arr k ys)] A) (.osl 0 k 0 xs.length) u1) (h2 : rep w β 2 (own β [(0, .arr k xs), (1, .arr k ys)] A) (.osl 1 k 0 ys.length) u2) (he : sliceT P t = some e) (hT : q12 P e = true) (hk : szT P e = k) (hz : q1i P e = some zs) (hzl : zs.length = k)
    (hb0 : 0 < q1v P e) (hlen : (xs.length + ys.length) * q1v P e <= 140737488355328) :
    ∃ v w' β', (∀ ty, (Builtin.append_ #[t, t] ty #[u1, u2]).run P w = .ok v w') /\ rep w' β' 3 (own β' [(2, .arr k (xs ++ ys))] A) (.osl 2 k 0 (xs.length + ys.length)) v /\ HpRel w' β' 3 A [(2, .arr k (xs ++ ys))] /\ Ext w β 2 [(0, .arr k xs), (1, .arr k ys)] w' β' 3 [(2, .arr k (xs ++ ys))] := by
  let o : Oper := { dst := some 0, op := .call { callee := .builtin .append, args := #[.tmp 0, .tmp 1], argTypes := #[t, t] }, type := 0, guard := none, after := #[], pos := "" }
  let C : Ctx P := ⟨w, β, 2, [(0, .arr k xs), (1, .arr k ys)], A, 2⟩
  let s : St := ⟨2, [(0, .osl 0 k 0 xs.length), (1, .osl 1 k 0 ys.length)], [(0, .arr k xs), (1, .arr k ys)], 2, 2⟩
  let a : Act := { tmps := #[u1, u2], defers := [] }
  have hR : Rel C s a w β :=
    { df := rfl, nt := rfl, ntc := rfl, nb := rfl, alt := hA, gs := hgs, hp := hhp, ext := { nx := Xa _, gh := fun _ _ => rfl, gi := fun _ _ _ => rfl, ids := fun p hp' => .inl (Xl hp'), blk := fun p hp' b hbc => .inl ⟨p, hp', hbc⟩, os := rfl, tape := rfl, output := ⟨rfl, fun _ => Xa _⟩, size := Xa _, keep := fun _ _ _ => rfl }, env := fun j => by
        match j with
        | 0 => exact h1
        | 1 => exact h2
        | j + 2 => simp only [s, q0u]; rw [if_neg (by omega), if_neg (by omega)]; simp only [rep] }
  have hsrc : qu8 s.hp (u6 s.env (.tmp 1)).st = some (k, ys, k = k /\ 0 + ys.length <= ys.length) := by simp [s, u6, q0u, AV.st, qu8, q0e]
  have hwp := zb2 (P := P) (K := fun s' => s' = (⟨2, [(0, .osl 2 k 0 (xs.length + ys.length)), (0, .osl 0 k 0 xs.length), (1, .osl 1 k 0 ys.length)], [(2, .arr k (xs ++ ys)), (1, .arr k ys)], 3, 2⟩ : St)) (Q := fun _ _ _ => False) (szx := k) (szy := k) (xs := xs) (ys := ys) (ids := [0]) hR (o := o) (x := .tmp 0) (y := .tmp 1) rfl rfl rfl rfl trivial trivial rfl ⟨rfl, rfl, rfl⟩
    hsrc ⟨rfl, by simp⟩ he hT hz (by rw [hzl, hk]) (.inr hk.symm) (.inr hk.symm) hb0 hlen rfl (by rw [hk]; simp [o, s, St.put, q5u, q41])
  have hex := z1b (P := P) (a := a) (w := w) (o := o) (x := .tmp 0) (y := .tmp 1) (ts := [t, t]) rfl rfl rfl rfl rfl; unfold Oper.wp at hwp; rw [hex] at hwp; have hty : ∀ ty, (Builtin.append_ #[t, t] ty #[u1, u2]).run P w = (Builtin.append_ ⟨[t, t]⟩ o.type #[a.eval (.tmp 0), a.eval (.tmp 1)]).run P w := fun ty => rfl
  revert hwp hty
  generalize (Builtin.append_ ⟨[t, t]⟩ o.type #[a.eval (.tmp 0), a.eval (.tmp 1)]).run P w = res
  intro hwp hty
  cases res with
  | halt x w' => cases x <;> exact hwp.elim
  | ok v w' =>
    obtain ⟨s', β', hR', rfl⟩ := hwp; have hsub := hR'.sub (hp' := [(2, .arr k (xs ++ ys))]) (by simp); have hv := hR'.env 0; refine ⟨v, w', β', hty, ?_, hsub.hp, hsub.ext⟩; simp only [q0u, if_true] at hv; simp only [rep] at hv ⊢; exact hv
theorem j02 {k bytes : Nat} {z : Value} (L : InsLay P ρ k bytes z) (hb : (Body2.n22 ρ).body.isSome = true) (hT : q12 P (ρ.t 9) = true) (hk : 0 < k) (hzk : z.cells.size = k) (hb0 : 0 < bytes) {α : Type} [Row α] (hsz : Row.sz α = k) (hrl : ∀ x : α, (Row.row x).length = k)
  {xs vs r : List α} {i : Int} (h : z9y bytes xs i vs = some r) :
  DetS P (ρ.f 22) [.osl 0 k 0 xs.length, .v (.int .i64 i), .osl 1 k 0 vs.length] [(0, .arr k (enc xs)), (1, .arr k (enc vs))] 2 (.osl 2 k 0 r.length) [(2, .arr k (enc r))] 3 := by
 obtain ⟨⟨g1, g2, g3, g4, g5⟩, h⟩ := q0d h; simp only [Xp] at h; obtain ⟨n0, rfl⟩ := Xn g1; rw [Xw] at h; have hn0 : n0 <= xs.length := by omega
 have hrlen : r.length = xs.length + vs.length := by rw [<- h]; simp; omega
 intro w β A us hA hargs hhp hgs; refine CallsE.of (zf0 L.f22 hb) ?_
 match us, hargs with
 | [u1, u2, u3], hargs =>
 simp only [x9, and_true] at hargs; obtain ⟨r1, r2, r3⟩ := hargs; have r2' : u2 = .int .i64 n0 := by simpa only [rep] using r2
 subst r2'; obtain ⟨i0, hi0, hz0, hzs, hzb⟩ := L.i9; have hst : sliceT P (ρ.t 24) = some (ρ.t 9) := by simp [sliceT, L.t24]
 have hszT : szT P (ρ.t 9) = k := by simp [szT, hi0, hzs]
 have hbyT : q1v P (ρ.t 9) = bytes := by simp [q1v, hi0, hzb]
 have hzero : q1i P (ρ.t 9) = some z.cells.toList := by simp [q1i, hi0, hz0]
 have hxl : ∀ q ∈ enc xs, q.length = k := by
  intro q hq; obtain ⟨x, _, rfl⟩ := Xz.1 hq; exact hrl x
 have hvl : ∀ q ∈ enc vs, q.length = k := by
  intro q hq; obtain ⟨x, _, rfl⟩ := Xz.1 hq; exact hrl x
 have hR : Rel (P := P) ⟨w, β, 2, [(0, .arr k (enc xs)), (1, .arr k (enc vs))], A, 0⟩ ⟨2, [], [(0, .arr k (enc xs)), (1, .arr k (enc vs))], 2, 0⟩ { tmps := #[], defers := [] } w β :=
  { df := rfl, nt := rfl, ntc := rfl, nb := rfl, alt := hA, gs := hgs, hp := hhp, ext := { nx := Xa _, gh := fun _ _ => rfl, gi := fun _ _ _ => rfl, ids := fun p hp' => .inl (Xl hp'), blk := fun p hp' b hbc => .inl ⟨p, hp', hbc⟩, os := rfl, tape := rfl, output := ⟨rfl, fun _ => Xa _⟩, size := Xa _, keep := fun _ _ _ => rfl }, env := fun t => by simp only [q0u, rep] }
 have r1' := r1; have r3' := r3; simp only [rep] at r1' r3'; rcases r3'.2 with ⟨_, _, h0, _⟩ | ⟨vb, vC, vcap, va, hvb, rfl, hvcap, hvC, hva⟩
 . omega
 have hva' : va = ⟨vb, 0, none⟩ := by
  rcases hva with rfl | ⟨_, h0⟩
  . simp
  . exact absurd rfl h0
 subst hva'; obtain ⟨vcur, ve, vvs, v1, v2, v3, v4, v5, v6, v7, v8, v9⟩ := qt5 hR (id := 1) (sz := k) (xs := enc vs) (by simp [q0e]) hvb; rw [q11] at v8 v3
 by_cases hend : n0 = xs.length
 .
  -- at the end
  obtain ⟨v, w', β', q1, q2, q3, q4⟩ := j7n hA hgs hhp (by rw [q11]; exact r1) (by rw [q11]; exact r3) hst hT hszT hzero (by simpa using hzk) (by rw [hbyT]; exact hb0) (by rw [q11, q11, hbyT]; exact g4); have hr : enc xs ++ enc vs = enc r := by rw [<- h, hend]; simp [enc]
  rw [hr] at q2 q3 q4; rw [q11, q11, <- hrlen] at q2; have hu1 : ∃ base c, u1 = .slice base xs.length c /\ xs.length <= c /\ (base = none -> xs.length = 0) := by
   rcases r1'.2 with ⟨_, _, h0, rfl⟩ | ⟨b, C, cap, a, _, rfl, hc, _⟩
   . exact ⟨none, 0, by rw [h0], by omega, fun _ => h0⟩
   . exact ⟨some a, cap, rfl, hc, fun h => by cases h⟩
  obtain ⟨base, c, rfl, hc, hnil⟩ := hu1; have := j01 L base xs.length c vb 0 vs.length vcap w g3 hc hnil q1; rw [hend]; refine this.mono ?_; rintro e w'' ⟨rfl, rfl⟩; exact ⟨v, _, _, _, β', rfl, ⟨rfl, rfl, rfl⟩, q2, q3, q4⟩
 .
  have hlt : n0 < xs.length := by omega
  rcases r1'.2 with ⟨_, _, h0, _⟩ | ⟨b, C, cap, a, hb1, rfl, hcap, hC, ha⟩
  . omega
  have ha' : a = ⟨b, 0, none⟩ := by
   rcases ha with rfl | ⟨_, h0⟩
   . simp
   . exact absurd rfl h0
  subst ha'; obtain ⟨cur, e, cs, c1, c2, c3, c4, c5, c6, c7, c8, c9⟩ := qt5 hR (id := 0) (sz := k) (xs := enc xs) (by simp [q0e]) hb1; rw [q11] at c8 c3; have hne : vb ≠ b := fun hx => by
   subst hx; have := hhp.inj (1, .arr k (enc vs)) (by simp) (0, .arr k (enc xs)) (by simp) vb vC C hvb hb1
   cases this
  have hcs : ∀ j v, cs[j]? = some v -> w.cell? ⟨b, 0 + j, none⟩ = some v := fun j v hj => by
   rw [Xj, cell_of_row w b j cur e (0, 0) c1]; simpa using c9 j v hj
  have hvs : ∀ j v, vvs[j]? = some v -> w.cell? ⟨vb, 0 + j, none⟩ = some v := fun j v hj => by
   rw [Xj, cell_of_row w vb j vcur ve (0, 0) v1]; simpa using v9 j v hj
  have hbl := hhp.blt (0, .arr k (enc xs)) (by simp) b C hb1; have hrows : enc r = (enc xs).take n0 ++ enc vs ++ (enc xs).drop n0 := by rw [<- h]; simp [enc]
  have hrep : x9 w β 0 (own β [(0, .arr k (enc xs)), (1, .arr k (enc vs))] A) (enc r).flatten (cs.take (n0 * k) ++ vvs ++ cs.drop (n0 * k)) := by
   rw [hrows, Xr, Xr, qp4 n0 c5, z18 n0 c5]; exact q5g (q5g (q64 c6 _) v6) (q74 c6 _)
  have hone : ∀ u ∈ cs.take (n0 * k) ++ vvs ++ cs.drop (n0 * k), u.oneCell' = true := by
   intro u hu; rcases X0.1 hu with hu | hu
   .
    rcases X0.1 hu with hu | hu
    . exact c7 u (X3 hu)
    . exact v7 u hu
   . exact c7 u (Xf hu)
  have hrk : ∀ q ∈ enc r, q.length = k := by
   intro q hq; obtain ⟨x, _, rfl⟩ := Xz.1 hq; exact hrl x
  have k1 : (n0 + vs.length) * k = n0 * k + vs.length * k := Xi _ _ _; have k2 : (xs.length + vs.length) * k = xs.length * k + vs.length * k := Xi _ _ _; have k3 : n0 * k <= xs.length * k := Xb _ hn0; have hAl : (cs.take (n0 * k)).length = n0 * k := by rw [Xq]; omega
  by_cases hroom : xs.length + vs.length <= cap
  .
   have hfit : (xs.length + vs.length) * k <= cur.size := by rw [c2]; exact Xb _ (by omega)
   have hcall := zm0 L b 0 xs.length cap n0 vb 0 vs.length vcap cs vvs w hk hlt g3 hroom (by unfold maxLen at c4; omega) hne c8 v8 hcs (fun j hj => by rw [Xj]; exact qa3 c1 (by omega)) (fun j _ => z16 c1 _) hvs c7 v7
    ve e vcur.size cur.size (by unfold World.shape?; rw [v1]) (by unfold World.shape?; rw [c1]) (by have := X5 (by omega : 0 < xs.length + vs.length) hk; omega) (z16 v1 _) (z16 v1 _)
   refine hcall.mono ?_; rintro e' w' ⟨rfl, rfl⟩; obtain ⟨f1, f2, f3, f4, f5, f6⟩ := q6q b (cs.drop (n0 * k)) (0 + (n0 + vs.length) * k) w.drew; obtain ⟨m1, m2, m3, m4, m5, m6⟩ := q6q b vvs (0 + n0 * k) (w.drew.setCells b (0 + (n0 + vs.length) * k) (cs.drop (n0 * k))); obtain ⟨cur1, d1, d2⟩ := q7h b (cs.drop (n0 * k)) (0 + (n0 + vs.length) * k) w.drew cur e c1; obtain ⟨cur2, d3, d4⟩ := q7h b vvs (0 + n0 * k) _ cur1 e d1; have hdl : (cs.drop (n0 * k)).length = xs.length * k - n0 * k := by rw [Xh, c8]
   have hcell : ∀ (j : Nat) (u : Value), (cs.take (n0 * k) ++ vvs ++ cs.drop (n0 * k))[j]? = some u -> ((w.drew.setCells b (0 + (n0 + vs.length) * k) (cs.drop (n0 * k))).setCells b (0 + n0 * k) vvs).cell? ⟨b, 0 + j, none⟩ = some u := by
    refine cells3 (fun j u hj => ?_) (fun j u hj => ?_) (fun j u hj => ?_)
    .
     have hj' : j < n0 * k := by
      have := (Xc.1 hj).1; omega
     rw [World.cell?_setCells_out b _ _ _ _ (fun _ _ => by left; show j < _; omega), World.cell?_setCells_out b _ _ _ _ (fun _ _ => by left; show j < _; omega)]; rw [Xm, if_pos hj'] at hj; have := hcs j u hj; rw [Xj] at this; exact this
    .
     have hj' : j < vvs.length := (Xc.1 hj).1; rw [hAl, show n0 * k + j = 0 + n0 * k + j by omega, World.cell?_setCells_in b vvs (0 + n0 * k) _ (fun t ht => by
      refine qa6 b _ _ _ (fun t' ht' => ?_) _ ?_
      . exact qa3 (w := w.drew) c1 (by omega)
      . exact qa3 (w := w.drew) c1 (by omega)) j hj']
     rw [Xd hj'] at hj; exact hj
    .
     have hj' : j < (cs.drop (n0 * k)).length := (Xc.1 hj).1; rw [hAl, v8, World.cell?_setCells_out b vvs _ _ _ (fun _ _ => by right; show _ <= n0 * k + vs.length * k + j; omega), show n0 * k + vs.length * k + j = 0 + (n0 + vs.length) * k + j by omega,
      World.cell?_setCells_in b (cs.drop (n0 * k)) (0 + (n0 + vs.length) * k) _ (fun t ht => qa3 (w := w.drew) c1 (by omega)) j hj']
     rw [Xd hj'] at hj; exact hj
   obtain ⟨β', q1, q2, q3⟩ := z5s (k := k) hA hgs hhp (xs := enc r) (b := b) (C := C) (cur := cur2) (e := e) (w' := (w.drew.setCells b (0 + (n0 + vs.length) * k) (cs.drop (n0 * k))).setCells b (0 + n0 * k) vvs) (by rw [m5, f5]; exact Xa _) (fun b' _ hb' => (m6 b' hb').trans (f6 b' hb')) (fun _ => q6s (p := (0, .arr k (enc xs))) (by simp) hb1) d3 (by rw [d4, d2]; exact c2) (by rw [q11, hrlen]; omega) c4 hrep hrk hone hcell (by rw [m1, f1]; rfl) (by rw [m2, f2]; rfl) ⟨by rw [m3, f3]; rfl, fun _ => by rw [m4, f4]; exact X6 _⟩ (cap := cap) (by rw [q11, hrlen]; exact hroom) (by omega); rw [q11] at q1; exact ⟨_, _, _, _, β', by rw [hrlen], ⟨rfl, rfl, rfl⟩, q1, q2, q3⟩
  .
   have hcall := zr5 L b 0 xs.length cap n0 vb 0 vs.length vcap cs vvs w hk hzk hlt g3 hcap (by omega) g4 g5 c8 v8 hcs hvs c7 v7; refine hcall.mono ?_; rintro e' w' ⟨rfl, rfl⟩; have hGn : xs.length + vs.length <= grownCap w (xs.length + vs.length) cap (ρ.t 9) := grownCap_ge w _ _ _; have hGm : grownCap w (xs.length + vs.length) cap (ρ.t 9) <= maxLen := grownCap_le_maxLen w _ _ _ g5
   revert hGn hGm
   generalize grownCap w (xs.length + vs.length) cap (ρ.t 9) = G
   intro hGn hGm; obtain ⟨ROW, hROW⟩ : ∃ ROW : Array Value, ROW = (cs.take (n0 * k)).toArray ++ Builtin.zeroCells z.cells (xs.length + vs.length - n0) ++ Builtin.zeroCells z.cells (G - (xs.length + vs.length)) := ⟨_, rfl⟩; rw [<- hROW]; have hRs : ROW.size = G * k := by
    rw [hROW]; have e1 : (xs.length + vs.length - n0) * k = (xs.length + vs.length) * k - n0 * k := Xg _ _ _; have e2 : (G - (xs.length + vs.length)) * k = G * k - (xs.length + vs.length) * k := Xg _ _ _; have e3 : (xs.length + vs.length) * k <= G * k := Xb _ hGn; simp only [Xv, Xo, hAl, size_zeroCells, hzk]; omega
   have hRA : ∀ j, j < n0 * k -> ROW[j]? = cs[j]? := fun j hj => by
    rw [hROW, Xu (by simp only [Xv, Xo, hAl]; omega), Xu (by simp only [Xo, hAl]; omega), List.getElem?_toArray, Xm, if_pos hj]
   have hRk : (xs.length + vs.length) * k <= ROW.size := by rw [hRs]; exact Xb _ hGn
   have hnew : (w.alloc (.cells ROW (ρ.t 9))).drew.heap[w.heap.size]? = some (.cells ROW (ρ.t 9) (0, 0)) := heap_alloc_new w _; have hsz1 : (w.alloc (.cells ROW (ρ.t 9))).drew.heap.size = w.heap.size + 1 := by show (w.alloc _).heap.size = _; simp
   have hold1 : ∀ b', b' < w.heap.size -> (w.alloc (.cells ROW (ρ.t 9))).drew.heap[b']? = w.heap[b']? := fun b' hb' => Below.heap_alloc w _ b' hb'
   revert hnew hsz1 hold1
   have ho1 : (w.alloc (.cells ROW (ρ.t 9))).drew.os = w.os := rfl; have ho2 : (w.alloc (.cells ROW (ρ.t 9))).drew.tape = w.tape := rfl; have ho3 : (w.alloc (.cells ROW (ρ.t 9))).drew.output = w.output := rfl; have ho4 : w.drawn <= (w.alloc (.cells ROW (ρ.t 9))).drew.drawn := X6 _
   revert ho1 ho2 ho3 ho4
   generalize (w.alloc (.cells ROW (ρ.t 9))).drew = W0
   intro ho1 ho2 ho3 ho4 hnew hsz1 hold1; obtain ⟨f1, f2, f3, f4, f5, f6⟩ := q6q w.heap.size vvs (n0 * k) W0; obtain ⟨cur1, d1, d2⟩ := q7h w.heap.size vvs (n0 * k) W0 ROW (ρ.t 9) hnew; obtain ⟨m1, m2, m3, m4, m5, m6⟩ := q6q w.heap.size (cs.drop (n0 * k)) ((n0 + vs.length) * k) (W0.setCells w.heap.size (n0 * k) vvs).drew; obtain ⟨cur2, d3, d4⟩ := q7h w.heap.size (cs.drop (n0 * k)) ((n0 + vs.length) * k) (W0.setCells w.heap.size (n0 * k) vvs).drew cur1 (ρ.t 9) d1; have hdl : (cs.drop (n0 * k)).length = xs.length * k - n0 * k := by rw [Xh, c8]
   have hcell : ∀ (j : Nat) (u : Value), (cs.take (n0 * k) ++ vvs ++ cs.drop (n0 * k))[j]? = some u -> ((W0.setCells w.heap.size (n0 * k) vvs).drew.setCells w.heap.size ((n0 + vs.length) * k) (cs.drop (n0 * k))).cell? ⟨w.heap.size, 0 + j, none⟩ = some u := by
    refine cells3 (fun j u hj => ?_) (fun j u hj => ?_) (fun j u hj => ?_)
    .
     have hj' : j < n0 * k := by
      have := (Xc.1 hj).1; omega
     rw [World.cell?_setCells_out w.heap.size _ _ _ _ (fun _ _ => by left; show j < _; omega)]
     show (W0.setCells w.heap.size (n0 * k) vvs).cell? _ = _
     rw [World.cell?_setCells_out w.heap.size _ _ _ _ (fun _ _ => by left; show j < _; omega), cell_of_row W0 w.heap.size j ROW (ρ.t 9) (0, 0) hnew, hRA j hj']
     rwa [Xm, if_pos hj'] at hj
    .
     have hj' : j < vvs.length := (Xc.1 hj).1; rw [hAl, World.cell?_setCells_out w.heap.size _ _ _ _ (fun _ _ => by left; show n0 * k + j < _; omega)]
     show (W0.setCells w.heap.size (n0 * k) vvs).cell? _ = _
     rw [World.cell?_setCells_in w.heap.size vvs (n0 * k) _ (fun t ht => qa3 hnew (by omega)) j hj']; rw [Xd hj'] at hj; exact hj
    .
     have hj' : j < (cs.drop (n0 * k)).length := (Xc.1 hj).1; rw [hAl, v8, show n0 * k + vs.length * k + j = (n0 + vs.length) * k + j by omega,
      World.cell?_setCells_in w.heap.size (cs.drop (n0 * k)) ((n0 + vs.length) * k) _ (fun t ht => by
       show ((W0.setCells w.heap.size (n0 * k) vvs).cell? _).isSome = true
       exact qa3 d1 (by rw [d2]; omega)) j hj']
     rw [Xd hj'] at hj; exact hj
   obtain ⟨β', q1, q2, q3⟩ := z5s (k := k) hA hgs hhp (xs := enc r) (b := w.heap.size) (C := G) (cur := cur2) (e := ρ.t 9) (w' := (W0.setCells w.heap.size (n0 * k) vvs).drew.setCells w.heap.size ((n0 + vs.length) * k) (cs.drop (n0 * k))) (by rw [m5]; show _ <= (W0.setCells w.heap.size (n0 * k) vvs).heap.size; rw [f5, hsz1]; omega) (fun b' hb' hbn => (m6 b' hbn).trans ((f6 b' hbn).trans (hold1 b' hb'))) (fun hx => absurd hx (Nat.lt_irrefl _)) d3 (by rw [d4, d2, hRs]) (by rw [q11, hrlen]; omega) hGm hrep hrk hone hcell (by rw [m1]; show (W0.setCells w.heap.size (n0 * k) vvs).os = _; rw [f1]; exact ho1) (by rw [m2]; show (W0.setCells w.heap.size (n0 * k) vvs).tape = _; rw [f2]; exact ho2) ⟨by rw [m3]; show (W0.setCells w.heap.size (n0 * k) vvs).output = _; rw [f3]; exact ho3, fun _ => by rw [m4]; show _ <= (W0.setCells w.heap.size (n0 * k) vvs).drawn + 1; rw [f4]; omega⟩ (cap := G) (by rw [q11, hrlen]; exact hGn) (Xa _); rw [q11] at q1; exact ⟨_, _, _, _, β', by rw [hrlen], ⟨rfl, rfl, rfl⟩, q1, q2, q3⟩
end
end Go.Proofs.YteibkihbdgphnaaGreat
set_option linter.unusedVariables false
set_option linter.unusedSimpArgs false
namespace Go.Proofs.YteibkihbdgphnaaGreat
open Go Go.RowKit Go.Lib Go.Shelf
section
variable {P : Program} {ρ : Ren}
structure DelLay (P : Program) (ρ : Ren) (k : Nat) (z : Value) : Prop where
 mixed : P.follows .mixedOrders = true
 f24 : Bears P (ρ.f 24) (Body2.n24 ρ)
 t0 : P.underlying (ρ.t 0) = some (TypeDesc.tuple #[])
 a0 : ∀ w, (isAgg (ρ.t 0)).run P w = .ok false w
 z0 : ∀ w, (Go.sizeOf (ρ.t 0)).run P w = .ok 1 w
 v0 : ∀ w, (zeroValue (ρ.t 0)).run P w = .ok (Value.tuple #[]) w
 t3 : P.underlying (ρ.t 3) = some (TypeDesc.int IntKind.i64)
 a3 : ∀ w, (isAgg (ρ.t 3)).run P w = .ok false w
 z3 : ∀ w, (Go.sizeOf (ρ.t 3)).run P w = .ok 1 w
 v3 : ∀ w, (zeroValue (ρ.t 3)).run P w = .ok (Value.int IntKind.i64 0) w
 t4 : P.underlying (ρ.t 4) = some (TypeDesc.bool)
 a4 : ∀ w, (isAgg (ρ.t 4)).run P w = .ok false w
 z4 : ∀ w, (Go.sizeOf (ρ.t 4)).run P w = .ok 1 w
 v4 : ∀ w, (zeroValue (ρ.t 4)).run P w = .ok (Value.bool false) w
 z9 : ∀ w, (Go.sizeOf (ρ.t 9)).run P w = .ok k w
 v9 : ∀ w, (zeroValue (ρ.t 9)).run P w = .ok z w
 t24 : P.underlying (ρ.t 24) = some (TypeDesc.slice (ρ.t 9))
 a24 : ∀ w, (isAgg (ρ.t 24)).run P w = .ok false w
 z24 : ∀ w, (Go.sizeOf (ρ.t 24)).run P w = .ok 1 w
 v24 : ∀ w, (zeroValue (ρ.t 24)).run P w = .ok (Value.slice none 0 0) w
 i9 : ∃ i, P.info? (ρ.t 9) = some i /\ i.zero = some z /\ i.size = k
theorem zw9 {k : Nat} (w : World) (t e ty : TypeId) (z : Value) (ht : P.underlying t = some (.slice e)) (hv : ∀ w, (zeroValue e).run P w = .ok z w) (hz : z.cells.size = k) (hk : 0 < k) (h1 : ∀ u ∈ z.cells.toList, u.oneCell' = true) (b o n c : Nat) (hn : 0 < n)
  (hc : ∀ j, j < n * k -> (w.cell? ⟨b, o + j, none⟩).isSome = true) (hf : ∀ j, j < n * k -> w.frozen? ⟨b, o + j, none⟩ = false) :
  (Builtin.clear_ #[t] ty #[.slice (some ⟨b, o, none⟩) n c]).run P w = .ok (.tuple #[]) (w.setCells b o (Xk n z.cells.toList).flatten) := by
 have hl : ((Xk n z.cells.toList).flatten).length = n * k := by
  rw [List.length_flatten]; simp only [List.map_replicate, Array.length_toList, hz, List.sum_replicate_nat]
 have hst := run_storeCells_cells (P := P) b o (Xk n z.cells.toList).flatten 0 w (by rw [hl]; simpa using hc) (by rw [hl]; simpa using hf) (by
  intro u hu; obtain ⟨l', hl', hul⟩ := List.mem_flatten.1 hu; rw [List.eq_of_mem_replicate hl'] at hul; exact h1 u hul)
 simp only [Nat.add_zero] at hst; have hzc := z1y (z := z) (by simpa [hz] using hk) n; obtain ⟨m, rfl⟩ : ∃ m, n = m + 1 := ⟨n - 1, by omega⟩; simp [Builtin.clear_, run_underlying ht, hv, hzc, hst]
set_option maxHeartbeats 4000000 in
set_option maxRecDepth 1000000 in
theorem z6j {k : Nat} {z : Value} (L : DelLay P ρ k z) (base : Option Addr) (n cap i : Nat) (w : World) (hcap : n <= cap) (hm : cap <= 9223372036854775807) (hi : i <= n) :
  Calls P (ρ.f 24) #[.slice base n cap, .int .i64 i, .int .i64 i] w fun e w' => e = .returned (.slice base n cap) /\ w' = w := by
 have mixed := L.mixed; have t0 := L.t0; have a0 := L.a0; have z0 := L.z0; have v0 := L.v0; have t3 := L.t3; have a3 := L.a3; have z3 := L.z3; have v3 := L.v3; have t4 := L.t4; have a4 := L.a4; have z4 := L.z4; have v4 := L.v4; have z9 := L.z9; have t24 := L.t24; have a24 := L.a24; have z24 := L.z24; have v24 := L.v24; obtain ⟨_, _, FG⟩ := L.f24
 go_enter FG, Body2.n24_ntmps ρ
 cases base with
 | none =>
  go_wp2
  all_goals (go_ret; exact ⟨rfl, rfl⟩)
 | some a =>
  obtain ⟨ab, ao, asp⟩ := a
  go_wp2
  all_goals (go_ret; exact ⟨rfl, rfl⟩)
set_option maxHeartbeats 4000000 in
set_option maxRecDepth 1000000 in
theorem zn8 {k : Nat} {z : Value} (L : DelLay P ρ k z) (hk : 0 < k) (hzk : z.cells.size = k) (hz1 : ∀ u ∈ z.cells.toList, u.oneCell' = true) (b off n cap i j : Nat) (cs : List Value) (w : World) (hcl : cs.length = n * k) (hcs : ∀ t v, cs[t]? = some v -> w.cell? ⟨b, off + t, none⟩ = some v) (h1c : ∀ v ∈ cs, v.oneCell' = true)
  (hsp : ∀ t, t < n * k -> (w.cell? ⟨b, off + t, none⟩).isSome = true) (hfz : ∀ t, t < n * k -> w.frozen? ⟨b, off + t, none⟩ = false) (hcap : n <= cap) (hm : cap <= 9223372036854775807) (hlt : i < j) (hj : j <= n) :
  Calls P (ρ.f 24) #[.slice (some ⟨b, off, none⟩) n cap, .int .i64 i, .int .i64 j] w fun e w' => e = .returned (.slice (some ⟨b, off, none⟩) (i + (n - j)) cap) /\
   w' = (w.drew.setCells b (off + i * k) (cs.drop (j * k))).setCells b (off + (i + (n - j)) * k) (Xk (n - (i + (n - j))) z.cells.toList).flatten := by
 have mixed := L.mixed; have t0 := L.t0; have a0 := L.a0; have z0 := L.z0; have v0 := L.v0; have t3 := L.t3; have a3 := L.a3; have z3 := L.z3; have v3 := L.v3; have t4 := L.t4; have a4 := L.a4; have z4 := L.z4; have v4 := L.v4; have z9 := L.z9; have t24 := L.t24; have a24 := L.a24; have z24 := L.z24; have v24 := L.v24; obtain ⟨i0, hi0, hz0, hzs⟩ := L.i9; have e1 : j * k <= n * k := Xb _ hj; have e2 : (n - j) * k = n * k - j * k := Xg _ _ _; have e3 : (i + (n - j)) * k = i * k + (n - j) * k := Xi _ _ _; have e4 : (i + (n - j)) * k <= n * k := Xb _ (by omega); have e5 : (n - (i + (n - j))) * k = n * k - (i + (n - j)) * k := Xg _ _ _; obtain ⟨news, hnews⟩ : ∃ news, news = cs.drop (j * k) := ⟨_, rfl⟩; have hlen : news.length = (n - j) * k := by rw [hnews, Xh, hcl, e2]
 obtain ⟨A, hA, hsrc⟩ : ∃ A : Addr, (if cap = j then some (⟨b, off, none⟩ : Addr) else some ⟨b, off + j * k, none⟩) = some A /\ Hid (∀ t u, news[t]? = some u -> w.drew.cell? (A.add t) = some u) := by
  by_cases h : cap = j
  .
   refine ⟨⟨b, off, none⟩, by simp [h], fun t u hu => ?_⟩; have h0 : news.length = 0 := by rw [hlen, show n - j = 0 by omega, Nat.zero_mul]
   rw [List.length_eq_zero_iff.1 h0] at hu; simp at hu
  . refine ⟨⟨b, off + j * k, none⟩, by simp [h], fun t u hu => ?_⟩; rw [hnews, Xs] at hu; rw [Addr.add_lit, Xe]; exact hcs _ u hu
 have s1 : Hid (news.length = (n - j) * k) := hlen; have s2 : Hid (∀ u ∈ news, u.oneCell' = true) := fun u hu => h1c u (by rw [hnews] at hu; exact Xf hu); have s3 : Hid (∀ t, t < news.length -> (w.drew.cell? ⟨b, off + i * k + t, none⟩).isSome = true /\ w.drew.frozen? ⟨b, off + i * k + t, none⟩ = false) := by
  intro t ht; rw [hlen] at ht; rw [Xe]; exact ⟨hsp _ (by omega), hfz _ (by omega)⟩
 obtain ⟨W1, hW1⟩ : ∃ W1, W1 = w.drew.setCells b (off + i * k) news := ⟨_, rfl⟩; have hcl2 : ∀ ty, (Builtin.clear_ #[ρ.t 24] ty #[.slice (some ⟨b, off + (i + (n - j)) * k, none⟩) (n - (i + (n - j))) (cap - (i + (n - j)))]).run P W1 = .ok (.tuple #[]) (W1.setCells b (off + (i + (n - j)) * k) (Xk (n - (i + (n - j))) z.cells.toList).flatten) :=
  fun ty => zw9 W1 _ _ ty _ t24 L.v9 hzk hk hz1 b (off + (i + (n - j)) * k) _ _ (by omega) (fun t ht => by
   rw [hW1, Xe]; exact qa6 b _ _ _ (fun t' ht' => by rw [Xe]; exact hsp _ (by omega)) _ (hsp _ (by omega))) (fun t ht => by rw [hW1, World.frozen?_setCells, Xe]; exact hfz _ (by omega))
 obtain ⟨zl, hzl⟩ : ∃ zl, zl = z.cells.toList := ⟨_, rfl⟩; rw [<- hzl]; rw [<- hzl] at hcl2; clear hzl hz1 hzk hz0; have X : Hid (W1 = w.drew.setCells b (off + i * k) news /\ news = cs.drop (j * k)) := ⟨hW1, hnews⟩; have hW : Hid (W1 = w.drew.setCells b (off + i * k) news) := hW1; have hic : i <= cap := by omega
 have hjc : j <= cap := by omega
 clear hW1 hcs hnews hlen e1 e2 e3 e4 e5 hsp hfz h1c hcl; obtain ⟨_, _, FG⟩ := L.f24
 go_enter FG, Body2.n24_ntmps ρ
 go_wp2_with fail
 go_region_law_o (refine step_append_room rfl (.tmp 22) (.tmp 25) (ρ.t 24) rfl (ρ.t 9) i0 k t24 hi0 hzs b off i cap (by simp [Act.eval, Act.put]) A (n - j) (cap - j) news (by simp [Act.eval, Act.put]) s1.out hsrc.out s2.out (by omega) s3.out ?_; rw [<- hW.out])
 go_wp2
 go_ret
 exact ⟨rfl, by rw [X.out.1, X.out.2]⟩
def za8 {α : Type} (xs : List α) (i j : Int) : Option (List α) :=
 q03 (0 <= i /\ i <= j /\ j <= xs.length) (some (xs.take i.toNat ++ xs.drop j.toNat))
theorem j0f {k : Nat} {z : Value} (L : DelLay P ρ k z) (hb : (Body2.n24 ρ).body.isSome = true) (hk : 0 < k) (hzk : z.cells.size = k) (hz1 : z.cells.toList.all (·.oneCell') = true) {α : Type} [Row α] (hrl : ∀ x : α, (Row.row x).length = k)
  {xs r : List α} {i j : Int} (h : za8 xs i j = some r) :
  DetS P (ρ.f 24) [.osl 0 k 0 xs.length, .v (.int .i64 i), .v (.int .i64 j)] [(0, .arr k (enc xs))] 1 (.osl 1 k 0 r.length) [(1, .arr k (enc r))] 2 := by
 obtain ⟨⟨g1, g2, g3⟩, h⟩ := q0d h; simp only [Xp] at h; obtain ⟨n0, rfl⟩ := Xn g1; obtain ⟨m0, rfl⟩ := Xn (by omega : 0 <= j); rw [Xw, Xw] at h; have hnm : n0 <= m0 := by omega
 have hm0 : m0 <= xs.length := by omega
 have hrlen : r.length = n0 + (xs.length - m0) := by rw [<- h]; simp; omega
 intro w β A us hA hargs hhp hgs; refine CallsE.of (zf0 L.f24 hb) ?_
 match us, hargs with
 | [u1, u2, u3], hargs =>
 simp only [x9, and_true] at hargs; obtain ⟨r1, r2, r3⟩ := hargs; have r2' : u2 = .int .i64 n0 := by simpa only [rep] using r2
 have r3' : u3 = .int .i64 m0 := by simpa only [rep] using r3
 subst r2' r3'; have hrk : ∀ q ∈ enc r, q.length = k := by
  intro q hq; obtain ⟨x, _, rfl⟩ := Xz.1 hq; exact hrl x
 have hR : Rel (P := P) ⟨w, β, 1, [(0, .arr k (enc xs))], A, 0⟩ ⟨1, [], [(0, .arr k (enc xs))], 1, 0⟩ { tmps := #[], defers := [] } w β :=
  { df := rfl, nt := rfl, ntc := rfl, nb := rfl, alt := hA, gs := hgs, hp := hhp, ext := { nx := Xa _, gh := fun _ _ => rfl, gi := fun _ _ _ => rfl, ids := fun p hp' => .inl (Xl hp'), blk := fun p hp' b hbc => .inl ⟨p, hp', hbc⟩, os := rfl, tape := rfl, output := ⟨rfl, fun _ => Xa _⟩, size := Xa _, keep := fun _ _ _ => rfl }, env := fun t => by simp only [q0u, rep] }
 have r1' := r1; simp only [rep] at r1'; rcases r1'.2 with ⟨hb0, _, h0, rfl⟩ | ⟨b, C, cap, a, hb1, rfl, hcap, hC, ha⟩
 .
  -- nil
  have hx : xs = [] := List.eq_nil_of_length_eq_zero h0; subst hx; have e1 : n0 = 0 := by simp at hm0; omega
  have e2 : m0 = 0 := by simp at hm0; omega
  subst e1 e2; have hr : r = [] := by rw [<- h]; rfl
  subst hr; refine (z6j L none 0 0 0 w (Xa _) (by omega) (Xa _)).mono ?_; rintro e w' ⟨rfl, rfl⟩; have := hR.more (w' := w') (bc := none) (o := .arr k (enc ([] : List α))) (hp1 := []) (X7 _) (Xa _) (fun _ _ _ => rfl) (fun b c hbc => by cases hbc) (fun ow' _ => .inl ⟨q1a _ _ _, rfl⟩) rfl rfl ⟨rfl, fun _ => Xa _⟩; refine ⟨_, _, _, _, upd β 1 none, rfl, ⟨rfl, rfl, rfl⟩, ?_, this.hp, this.ext⟩; simp only [rep]; exact ⟨Nat.lt_succ_self _, .inl ⟨q1a _ _ _, by trivial, rfl, by trivial⟩⟩
 .
  have ha' : a = ⟨b, 0, none⟩ := by
   rcases ha with rfl | ⟨_, h0⟩
   . simp
   . exact absurd rfl h0
  subst ha'; obtain ⟨cur, e, cs, c1, c2, c3, c4, c5, c6, c7, c8, c9⟩ := qt5 hR (id := 0) (sz := k) (xs := enc xs) (by simp [q0e]) hb1; rw [q11] at c8 c3; have hcs : ∀ j v, cs[j]? = some v -> w.cell? ⟨b, 0 + j, none⟩ = some v := fun j v hj => by
   rw [Xj, cell_of_row w b j cur e (0, 0) c1]; simpa using c9 j v hj
  have hrows : enc r = (enc xs).take n0 ++ (enc xs).drop m0 := by rw [<- h]; simp [enc]
  have hrep : x9 w β 0 (own β [(0, .arr k (enc xs))] A) (enc r).flatten (cs.take (n0 * k) ++ cs.drop (m0 * k)) := by
   rw [hrows, Xr, qp4 n0 c5, z18 m0 c5]; exact q5g (q64 c6 _) (q74 c6 _)
  have hone : ∀ u ∈ cs.take (n0 * k) ++ cs.drop (m0 * k), u.oneCell' = true := by
   intro u hu; rcases X0.1 hu with hu | hu
   . exact c7 u (X3 hu)
   . exact c7 u (Xf hu)
  have k1 : n0 * k <= m0 * k := Xb _ hnm; have k2 : m0 * k <= xs.length * k := Xb _ hm0; have k3 : xs.length * k <= cur.size := by rw [c2]; exact Xb _ c3
  have hAl : (cs.take (n0 * k)).length = n0 * k := by rw [Xq]; omega
  by_cases heq : n0 = m0
  .
   subst heq; refine (z6j L (some ⟨b, 0, none⟩) xs.length cap n0 w hcap (by unfold maxLen at c4; omega) hm0).mono ?_; rintro e' w' ⟨rfl, rfl⟩; have hrx : r = xs := by rw [<- h]; simp
   subst hrx; obtain ⟨β', q1, q2, q3⟩ := z5s (k := k) hA hgs hhp (xs := enc r) (b := b) (C := C) (cur := cur) (e := e) (w' := w') (Xa _) (fun _ _ _ => rfl) (fun _ => q6s (p := (0, .arr k (enc r))) (by simp) hb1) c1 c2 (by rw [q11]; exact c3) c4 c6 c5 c7 hcs rfl rfl ⟨rfl, fun _ => Xa _⟩ (cap := cap) (by rw [q11]; exact hcap) (by omega); rw [q11] at q1; exact ⟨_, _, _, _, β', rfl, ⟨rfl, rfl, rfl⟩, q1, q2, q3⟩
  .
   have hlt : n0 < m0 := by omega
   refine (zn8 L hk hzk (fun u hu => List.all_eq_true.1 hz1 u hu) b 0 xs.length cap n0 m0 cs w c8 hcs c7 (fun t ht => by rw [Xj]; exact qa3 c1 (by omega)) (fun t _ => z16 c1 _) hcap (by unfold maxLen at c4; omega) hlt hm0).mono ?_; rintro e' w' ⟨rfl, rfl⟩; have hdl : (cs.drop (m0 * k)).length = xs.length * k - m0 * k := by rw [Xh, c8]
   have k4 : (n0 + (xs.length - m0)) * k = n0 * k + (xs.length * k - m0 * k) := by rw [Xi, Xg]
   obtain ⟨f1, f2, f3, f4, f5, f6⟩ := q6q b (cs.drop (m0 * k)) (0 + n0 * k) w.drew; obtain ⟨cur1, d1, d2⟩ := q7h b (cs.drop (m0 * k)) (0 + n0 * k) w.drew cur e c1; obtain ⟨ZZ, hZZ⟩ : ∃ ZZ, ZZ = (Xk (xs.length - (n0 + (xs.length - m0))) z.cells.toList).flatten := ⟨_, rfl⟩; rw [<- hZZ]; obtain ⟨m1, m2, m3, m4, m5, m6⟩ := q6q b ZZ (0 + (n0 + (xs.length - m0)) * k) (w.drew.setCells b (0 + n0 * k) (cs.drop (m0 * k))); obtain ⟨cur2, d3, d4⟩ := q7h b ZZ (0 + (n0 + (xs.length - m0)) * k) _ cur1 e d1; have hcell : ∀ (j : Nat) (u : Value), (cs.take (n0 * k) ++ cs.drop (m0 * k))[j]? = some u -> ((w.drew.setCells b (0 + n0 * k) (cs.drop (m0 * k))).setCells b (0 + (n0 + (xs.length - m0)) * k) ZZ).cell? ⟨b, 0 + j, none⟩ = some u := by
    have := cells3 (w := (w.drew.setCells b (0 + n0 * k) (cs.drop (m0 * k))).setCells b (0 + (n0 + (xs.length - m0)) * k) ZZ) (b := b) (A := cs.take (n0 * k)) (B := cs.drop (m0 * k)) (D := []) (fun j u hj => by
      have hj' : j < n0 * k := by
       have := (List.getElem?_eq_some_iff.1 hj).1; omega
      rw [World.cell?_setCells_out b _ _ _ _ (fun _ _ => by left; show j < _; omega), World.cell?_setCells_out b _ _ _ _ (fun _ _ => by left; show j < _; omega)]; rw [List.getElem?_take, if_pos hj'] at hj; have := hcs j u hj; rw [Nat.zero_add] at this; exact this)
     (fun j u hj => by
      have hj' : j < (cs.drop (m0 * k)).length := (Xc.1 hj).1; rw [hAl, World.cell?_setCells_out b ZZ _ _ _ (fun _ _ => by left; show n0 * k + j < _; omega), show n0 * k + j = 0 + n0 * k + j by omega,
       World.cell?_setCells_in b (cs.drop (m0 * k)) (0 + n0 * k) _ (fun t ht => qa3 (w := w.drew) c1 (by omega)) j hj']
      rw [Xd hj'] at hj; exact hj)
     (fun j u hj => by simp at hj)
    simpa using this
   obtain ⟨β', q1, q2, q3⟩ := z5s (k := k) hA hgs hhp (xs := enc r) (b := b) (C := C) (cur := cur2) (e := e) (w' := (w.drew.setCells b (0 + n0 * k) (cs.drop (m0 * k))).setCells b (0 + (n0 + (xs.length - m0)) * k) ZZ) (by rw [m5, f5]; exact Xa _) (fun b' _ hb' => (m6 b' hb').trans (f6 b' hb')) (fun _ => q6s (p := (0, .arr k (enc xs))) (by simp) hb1) d3
    (by rw [d4, d2]; exact c2) (by rw [q11, hrlen]; omega) c4 hrep hrk hone hcell (by rw [m1, f1]; rfl) (by rw [m2, f2]; rfl) ⟨by rw [m3, f3]; rfl, fun _ => by rw [m4, f4]; exact X6 _⟩ (cap := cap) (by rw [q11, hrlen]; omega) (by omega)
   rw [q11] at q1; rw [hrlen] at q1; exact ⟨_, _, _, _, β', rfl, ⟨rfl, rfl, rfl⟩, by rw [hrlen]; exact q1, q2, q3⟩
end
def j29 (i ov ro t0 ti tb et sl : Nat) : Ren :=
 ⟨fun n => match n with | 22 => i | 24 => i | 29 => ov | _ => ro, fun n => match n with | 0 => t0 | 3 => ti | 4 => tb | 9 => et | _ => sl, fun n => n⟩
theorem zu4 {P : Program} {t : TypeId} {z : Value} {k b : Nat} (h : (P.info? t).map (fun i => (i.zero, i.size, i.bytes)) = some (some z, k, b)) : ∃ i, P.info? t = some i /\ i.zero = some z /\ i.size = k /\ i.bytes = b := by
 cases hi : P.info? t with
 | none => rw [hi] at h; cases h
 | some i =>
  rw [hi] at h; simp only [Option.map_some, Xp, Prod.mk.injEq] at h; exact ⟨i, rfl, h.1, h.2.1, h.2.2⟩
theorem j4k {P : Program} {t : TypeId} {z : Value} {k b : Nat} (h : (P.info? t).map (fun i => (i.zero, i.size, i.bytes)) = some (some z, k, b)) : ∃ i, P.info? t = some i /\ i.zero = some z /\ i.size = k := by
 obtain ⟨i, h1, h2, h3, _⟩ := zu4 h; exact ⟨i, h1, h2, h3⟩
end Go.Proofs.YteibkihbdgphnaaGreat
