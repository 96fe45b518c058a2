/-
  What functions of the program compute, each told as a plain function that may give nothing, with the proof that the code does so. No condition beyond those that each theorem names.
-/
import Derived.Test.YtaiccbgcgcfhfaaGreatLibD
import Derived.Test.YtaiccbgcgcfhfaaGreatProg
import Derived.Test.YtaiccbgcgcfhfaaGreatLibM
import Derived.DeepKeys4
import Derived.Test.YtaiccbgcgcfhfaaGreatLibI
set_option linter.unusedSimpArgs false
set_option linter.unusedVariables false
set_option linter.unusedSectionVars false
set_option maxHeartbeats 2000000
set_option maxRecDepth 100000
open Int renaming toNat -> Xa, toNat_natCast -> Xj, reduceToNat -> Xl
open List renaming take -> Xb, length_cons -> Xe, length -> Xf, length_nil -> Xg, getD_eq_getElem?_getD -> Xi, replicate -> Xk, length_append -> Xm, drop -> Xn, forall_mem_cons -> Xo, nil_append -> Xp, cons_append -> Xr, append_nil -> Xs, map_cons -> Xw, set -> Xy, map_nil -> Xz, drop_succ_cons -> X0, append_assoc -> X3, mapIdx_cons -> X5
open Nat renaming zero_add -> Xc, reduceAdd -> Xq, mul_one -> Xt, add_zero -> Xv
open Option renaming some.inj -> Xd, getD_some -> Xu, map_some -> Xx
open And renaming intro -> Xh
open Bool renaming and_eq_true -> X4
namespace Go.Proofs.YtaiccbgcgcfhfaaGreat
open Go Go.RowKit
open Go.IntKind (i64)
noncomputable abbrev pp : Program := Tryz.prog
theorem z9e : Tryz.prog.underlying 51 = some (.map 81 82) := by kernel_rfl
theorem z9d : Tryz.prog.underlying 52 = some (.map 3 117) := by kernel_rfl
theorem z1r : Tryz.prog.underlying 53 = some (.map 81 62) := by kernel_rfl
@[reducible] def tyF (P : Program) (t s : Nat) (a : Bool) (b : Nat) (n : List (Option Nat)) (r : Option (Nat × Nat)) (z : Option (List Value)) : Prop := szT P t = s /\ q0y P t = true /\ q50 P t = a /\ q1v P t = b /\ q8z P t = n /\ qk0 P t = r /\ q1j P t = z
@[go_sem] theorem ji7 : tyF pp 2 1 false 8 [none] none (some [.int .i64 0]) /\ (qn0 pp 2 = some .i64) /\ tyF pp 3 1 false 8 [none] none (some [.int .i64 0]) /\ (qn0 pp 3 = some .i64) /\ tyF pp 4 1 false 1 [none] none (some [.bool false]) /\ (Tryz.prog.underlying 4 = some .bool) /\ tyF pp 22 1 false 24 [some 1] none (some [.slice none 0 0]) /\ (sliceT pp 22 = some 3) /\ tyF pp 23 1 false 24 [some 4] none (some [.slice none 0 0]) /\ (sliceT pp 23 = some 46) /\ tyF pp 24 1 false 24 [some 4] none (some [.slice none 0 0]) /\ (sliceT pp 24 = some 128) /\ tyF pp 26 4 true 96 [some 1, some 1, some 4, some 4] none (some [.slice none 0 0, .slice none 0 0, .slice none 0 0, .slice none 0 0]) /\ (q0s pp 26 0 = some (0, 22)) /\ (q0s pp 26 1 = some (1, 22)) /\ (q0s pp 26 2 = some (2, 23)) /\ (q0s pp 26 3 = some (3, 24)) /\ (q54 pp 26 = some [(0, 1), (1, 1), (2, 1), (3, 1)]) := by (repeat' apply Xh) <;> kernel_rfl
@[go_sem] theorem jg6 : tyF pp 27 1 false 24 [some 4] none (some [.slice none 0 0]) /\ (sliceT pp 27 = some 42) /\ tyF pp 30 1 false 24 [some 4] none (some [.slice none 0 0]) /\ (sliceT pp 30 = some 67) /\ tyF pp 31 1 false 8 [none] none (some [.int .i64 0]) /\ (qn0 pp 31 = some .i64) /\ tyF pp 40 2 true 16 [none, none] none (some [.int .i64 0, .int .i64 0]) /\ (q0s pp 40 0 = some (0, 2)) /\ (q0s pp 40 1 = some (1, 2)) /\ (q54 pp 40 = some [(0, 1), (1, 1)]) /\ tyF pp 42 4 true 32 [none, none, none, none] none (some [.int .i64 0, .int .i64 0, .int .i64 0, .int .i64 0]) /\ (q0s pp 42 0 = some (0, 3)) /\ (q0s pp 42 1 = some (1, 3)) /\ (q0s pp 42 2 = some (2, 40)) /\ (q54 pp 42 = some [(0, 1), (1, 1), (2, 2)]) /\ tyF pp 44 1 false 24 [some 2] none (some [.slice none 0 0]) /\ (sliceT pp 44 = some 171) /\ (szT pp 46 = 4) /\ (q0y pp 46 = true) /\ (q50 pp 46 = true) /\ (q1v pp 46 = 48) /\ (q8z pp 46 = [none, none, none, some 2]) /\ (qk0 pp 46 = none) /\ (q0s pp 46 0 = some (0, 3)) := by (repeat' apply Xh) <;> kernel_rfl
@[go_sem] theorem jg5 : (q0s pp 46 1 = some (1, 3)) /\ (q0s pp 46 2 = some (2, 2)) /\ (q0s pp 46 3 = some (3, 44)) /\ (q54 pp 46 = some [(0, 1), (1, 1), (2, 1), (3, 1)]) /\ (q1j pp 46 = some [.int .i64 0, .int .i64 0, .int .i64 0, .slice none 0 0]) /\ tyF pp 48 1 false 8 [none] none (some [.nilFunc]) /\ tyF pp 49 1 false 8 [none] none (some [.nilFunc]) /\ (z1h pp 50 = true) /\ tyF pp 50 1 false 8 [none] none (some [.pointer none]) /\ (Tryz.prog.underlying 51 = some (.map 81 82)) /\ ((Tryz.prog.info? 82).bind (·.zero) = some (.pointer none)) /\ tyF pp 51 1 false 8 [none] none (some [.map none]) /\ (Tryz.prog.underlying 52 = some (.map 3 117)) /\ ((Tryz.prog.info? 117).bind (·.zero) = some (.slice none 0 0)) /\ tyF pp 52 1 false 8 [none] none (some [.map none]) /\ (Tryz.prog.underlying 53 = some (.map 81 62)) /\ ((Tryz.prog.info? 62).bind (·.zero) = some (.slice none 0 0)) /\ tyF pp 53 1 false 8 [none] none (some [.map none]) /\ (szT pp 55 = 11) /\ (q0y pp 55 = true) /\ (q50 pp 55 = true) /\ (q1v pp 55 = 168) /\ (q8z pp 55 = [some 1, some 1, some 4, some 4, none, none, none, none, none, some 4, none]) /\ (qk0 pp 55 = none) := by (repeat' apply Xh) <;> kernel_rfl
@[go_sem] theorem jg4 : (q0s pp 55 0 = some (0, 26)) /\ (q0s pp 55 1 = some (4, 51)) /\ (q0s pp 55 2 = some (5, 52)) /\ (q0s pp 55 3 = some (6, 53)) /\ (q0s pp 55 4 = some (7, 3)) /\ (q0s pp 55 5 = some (8, 3)) /\ (q0s pp 55 6 = some (9, 30)) /\ (q0s pp 55 7 = some (10, 31)) /\ (q54 pp 55 = some [(0, 4), (4, 1), (5, 1), (6, 1), (7, 1), (8, 1), (9, 1), (10, 1)]) /\ (q1j pp 55 = some [.slice none 0 0, .slice none 0 0, .slice none 0 0, .slice none 0 0, .map none, .map none, .map none, .int .i64 0, .int .i64 0, .slice none 0 0, .int .i64 0]) /\ tyF pp 57 4 true 32 [none, none, none, none] (some (4, 3)) (some [.int .i64 0, .int .i64 0, .int .i64 0, .int .i64 0]) /\ (q54 pp 57 = some [(0, 1), (1, 1), (2, 1), (3, 1)]) /\ tyF pp 59 5 true 40 [none, none, none, none, none] none (some [.int .i64 0, .int .i64 0, .int .i64 0, .int .i64 0, .int .i64 0]) /\ (q0s pp 59 0 = some (0, 3)) /\ (q0s pp 59 1 = some (1, 57)) /\ (q54 pp 59 = some [(0, 1), (1, 4)]) /\ tyF pp 61 3 true 24 [none, none, none] none (some [.int .i64 0, .int .i64 0, .int .i64 0]) /\ (q0s pp 61 0 = some (0, 40)) /\ (q0s pp 61 1 = some (2, 3)) /\ (q54 pp 61 = some [(0, 2), (2, 1)]) /\ tyF pp 62 1 false 24 [some 3] none (some [.slice none 0 0]) /\ (sliceT pp 62 = some 61) /\ tyF pp 67 4 true 32 [none, none, none, none] none (some [.int .i64 0, .int .i64 0, .int .i64 0, .int .i64 0]) /\ (q0s pp 67 0 = some (0, 3)) /\ (q0s pp 67 1 = some (1, 3)) /\ (q0s pp 67 2 = some (2, 40)) /\ (q54 pp 67 = some [(0, 1), (1, 1), (2, 2)]) /\ (szT pp 69 = 1) /\ (q0y pp 69 = true) /\ (q50 pp 69 = false) := by (repeat' apply Xh) <;> kernel_rfl
@[go_sem] theorem jg3 : (q1v pp 69 = 8) /\ (q8z pp 69 = [none]) /\ (qk0 pp 69 = none) /\ (q1j pp 69 = some [.nilFunc]) /\ tyF pp 72 1 false 8 [none] none (some [.nilFunc]) /\ tyF pp 75 1 false 8 [none] none (some [.nilFunc]) /\ tyF pp 81 6 true 48 [none, none, none, none, none, none] none (some [.int .i64 0, .int .i64 0, .int .i64 0, .int .i64 0, .int .i64 0, .int .i64 0]) /\ (q0s pp 81 0 = some (0, 3)) /\ (q0s pp 81 1 = some (1, 59)) /\ (q54 pp 81 = some [(0, 1), (1, 5)]) /\ (z1h pp 82 = true) /\ tyF pp 82 1 false 8 [none] none (some [.pointer none]) /\ tyF pp 83 2 true 48 [some 3, some 3] (some (2, 62)) (some [.slice none 0 0, .slice none 0 0]) /\ (q54 pp 83 = some [(0, 1), (1, 1)]) /\ tyF pp 87 1 false 8 [none] none (some [.int .u64 0]) /\ (qn0 pp 87 = some .u64) /\ tyF pp 112 1 false 4 [none] none (some [.int .u32 0]) /\ (qn0 pp 112 = some .u32) := by (repeat' apply Xh) <;> kernel_rfl
@[go_sem] theorem jg2 : tyF pp 114 1 false 8 [none] none (some [.int .u64 0]) /\ (qn0 pp 114 = some .u64) /\ tyF pp 116 1 false 24 [some 1] none (some [.slice none 0 0]) /\ (sliceT pp 116 = some 62) /\ tyF pp 117 1 false 24 [some 6] none (some [.slice none 0 0]) /\ (sliceT pp 117 = some 119) /\ tyF pp 119 6 true 48 [none, none, none, none, none, none] none (some [.int .i64 0, .int .i64 0, .int .i64 0, .int .i64 0, .int .i64 0, .int .i64 0]) /\ (q0s pp 119 0 = some (0, 59)) /\ (q0s pp 119 1 = some (5, 3)) /\ (q54 pp 119 = some [(0, 5), (5, 1)]) /\ tyF pp 123 1 false 24 [some 2] none (some [.slice none 0 0]) /\ (sliceT pp 123 = some 40) /\ tyF pp 128 4 true 32 [none, none, none, none] none (some [.int .i64 0, .int .i64 0, .int .i64 0, .bool false]) /\ (q0s pp 128 0 = some (0, 3)) /\ (q0s pp 128 1 = some (1, 3)) /\ (q0s pp 128 2 = some (2, 3)) /\ (q0s pp 128 3 = some (3, 4)) /\ (q54 pp 128 = some [(0, 1), (1, 1), (2, 1), (3, 1)]) /\ (szT pp 144 = 1) /\ (q0y pp 144 = true) /\ (q50 pp 144 = false) /\ (q1v pp 144 = 24) /\ (sliceT pp 144 = some 4) /\ (q8z pp 144 = [some 1]) := by (repeat' apply Xh) <;> kernel_rfl
@[go_sem] theorem jg1 : (qk0 pp 144 = none) /\ (q1j pp 144 = some [.slice none 0 0]) /\ tyF pp 145 1 false 8 [none] none (some [.nilFunc]) /\ (z1h pp 158 = true) /\ tyF pp 158 1 false 8 [none] none (some [.pointer none]) /\ tyF pp 160 2 true 32 [some 3, none] none (some [.slice none 0 0, .int .i64 0]) /\ (q0s pp 160 0 = some (0, 62)) /\ (q0s pp 160 1 = some (1, 3)) /\ (q54 pp 160 = some [(0, 1), (1, 1)]) /\ tyF pp 171 2 true 16 [none, none] none (some [.int .i64 0, .int .i64 0]) /\ (q0s pp 171 0 = some (0, 3)) /\ (q0s pp 171 1 = some (1, 2)) /\ (q54 pp 171 = some [(0, 1), (1, 1)]) /\ tyF pp 173 1 false 8 [none] none (some [.nilFunc]) /\ tyF pp 175 1 false 8 [none] none (some [.nilFunc]) /\ (z1h pp 202 = true) /\ tyF pp 202 1 false 8 [none] none (some [.pointer none]) /\ (szT pp 203 = 1) := by (repeat' apply Xh) <;> kernel_rfl
@[go_sem] theorem jg0 : (q0y pp 203 = true) /\ (q50 pp 203 = false) /\ (q1v pp 203 = 24) /\ (sliceT pp 203 = some 2) /\ (q8z pp 203 = [some 1]) /\ (qk0 pp 203 = none) /\ (q1j pp 203 = some [.slice none 0 0]) /\ tyF pp 205 6 true 80 [none, none, some 1, some 2, none, none] none (some [.int .i64 0, .int .i64 0, .slice none 0 0, .slice none 0 0, .int .i64 0, .int .i64 0]) /\ (q0s pp 205 0 = some (0, 40)) /\ (q0s pp 205 1 = some (2, 203)) /\ (q0s pp 205 2 = some (3, 123)) /\ (q0s pp 205 3 = some (4, 3)) /\ (q0s pp 205 4 = some (5, 3)) /\ (q54 pp 205 = some [(0, 2), (2, 1), (3, 1), (4, 1), (5, 1)]) /\ (d9 pp 3 = true) /\ (d9 pp 4 = true) /\ (d9 pp 5 = true) /\ (d9 pp 6 = true) /\ (d9 pp 7 = true) /\ (d9 pp 8 = true) /\ (d9 pp 9 = true) /\ (d9 pp 10 = true) /\ (d9 pp 11 = true) /\ (d9 pp 12 = true) /\ (d9 pp 13 = true) /\ (d9 pp 14 = true) /\ (d9 pp 15 = true) /\ (d9 pp 16 = true) /\ (d9 pp 17 = true) /\ (d9 pp 18 = true) /\ (d9 pp 19 = true) /\ (d9 pp 20 = true) /\ (d9 pp 21 = true) /\ (d9 pp 22 = true) /\ (d9 pp 23 = true) /\ (d9 pp 24 = true) /\ (d9 pp 25 = true) /\ (d9 pp 26 = true) /\ (d9 pp 27 = true) /\ (d9 pp 28 = true) /\ (d9 pp 29 = true) /\ (d9 pp 30 = true) /\ (d9 pp 31 = true) /\ (d9 pp 32 = true) /\ (d9 pp 33 = true) /\ (d9 pp 34 = true) /\ (d9 pp 35 = true) /\ (d9 pp 36 = true) /\ (d9 pp 39 = true) /\ (d9 pp 40 = true) /\ (d9 pp 41 = true) /\ (d9 pp 42 = true) /\ (d9 pp 43 = true) /\ (d9 pp 44 = true) := by (repeat' apply Xh) <;> kernel_rfl
@[go_sem] theorem jf9 : (d9 pp 45 = true) /\ (d9 pp 46 = true) /\ (d9 pp 47 = true) /\ (d9 pp 49 = true) /\ (d9 pp 50 = true) /\ (d9 pp 51 = true) /\ (d9 pp 52 = true) /\ (d9 pp 53 = true) /\ (d9 pp 54 = true) /\ (d9 pp 55 = true) /\ (d9 pp 56 = true) /\ (d9 pp 57 = true) /\ (d9 pp 69 = true) /\ (d9 pp 70 = true) /\ (d9 pp 71 = true) /\ (d9 pp 72 = true) /\ (d9 pp 73 = true) /\ (d9 pp 74 = true) /\ (d9 pp 75 = true) /\ (d9 pp 76 = true) /\ (d9 pp 77 = true) /\ (d9 pp 78 = true) /\ (d9 pp 79 = true) /\ (d9 pp 87 = true) /\ (d9 pp 88 = true) /\ (d9 pp 89 = true) /\ (d9 pp 90 = true) /\ (d9 pp 91 = true) /\ (d9 pp 92 = true) /\ (d9 pp 93 = true) /\ (d9 pp 94 = true) /\ (d9 pp 95 = true) /\ (d9 pp 96 = true) /\ (d9 pp 97 = true) /\ (d9 pp 98 = true) /\ (d9 pp 99 = true) /\ (d9 pp 100 = true) /\ (d9 pp 101 = true) /\ (d9 pp 102 = true) /\ (d9 pp 108 = true) /\ (d9 pp 109 = true) /\ (d9 pp 110 = true) /\ (d9 pp 111 = true) /\ (d9 pp 112 = true) /\ (d9 pp 113 = true) /\ (d9 pp 114 = true) /\ (d9 pp 115 = true) /\ (d9 pp 116 = true) /\ (d9 pp 117 = true) /\ (d9 pp 118 = true) /\ (d9 pp 122 = true) /\ (d9 pp 123 = true) /\ (d9 pp 124 = true) /\ (d9 pp 125 = true) /\ (d9 pp 126 = true) /\ (d9 pp 127 = true) /\ (d9 pp 128 = true) /\ (d9 pp 129 = true) /\ (d9 pp 130 = true) /\ (d9 pp 131 = true) := by (repeat' apply Xh) <;> kernel_rfl
@[go_sem] theorem jf8 : (d9 pp 133 = true) /\ (d9 pp 134 = true) /\ (d9 pp 137 = true) /\ (d9 pp 141 = true) /\ (d9 pp 142 = true) /\ (d9 pp 143 = true) /\ (d9 pp 145 = true) /\ (d9 pp 146 = true) /\ (d9 pp 149 = true) /\ (d9 pp 150 = true) /\ (d9 pp 152 = true) /\ (d9 pp 153 = true) /\ (d9 pp 155 = true) /\ (d9 pp 159 = true) /\ (d9 pp 160 = true) /\ (d9 pp 161 = true) /\ (d9 pp 162 = true) /\ (d9 pp 163 = true) /\ (d9 pp 164 = true) /\ (d9 pp 165 = true) := by (repeat' apply Xh) <;> kernel_rfl
theorem mixed : Tryz.prog.follows .mixedOrders = true := by kernel_rfl
structure Arr2 (α : Type) where
  a0 : α
  a1 : α
instance {α : Type} [Row α] : Row (Arr2 α) := ⟨Row.sz α + Row.sz α, fun x => Row.row x.a0 ++ Row.row x.a1⟩
instance {α : Type} [Dat α] : Dat (Arr2 α) where
  ct := Dat.ct α ++ (Dat.ct α)
  ok x := Dat.ok x.a0 /\ Dat.ok x.a1
  len := by simp only [Xm, Dat.len]; (try simp only [Row.sz]); (try omega)
  of avs h := by
    obtain ⟨b0, r0, rfl, h0, g0⟩ := q0l h; obtain ⟨x0, rfl, k0⟩ := Dat.of (α := α) _ h0; obtain ⟨x1, rfl, k1⟩ := Dat.of (α := α) _ g0; exact ⟨⟨x0, x1⟩, by simp only [Row.row, X3], k0, k1⟩
structure Arr4 (α : Type) where
  a0 : α
  a1 : α
  a2 : α
  a3 : α
instance {α : Type} [Row α] : Row (Arr4 α) := ⟨Row.sz α + Row.sz α + Row.sz α + Row.sz α, fun x => Row.row x.a0 ++ Row.row x.a1 ++ Row.row x.a2 ++ Row.row x.a3⟩
instance {α : Type} [Dat α] : Dat (Arr4 α) where
  ct := Dat.ct α ++ (Dat.ct α ++ (Dat.ct α ++ (Dat.ct α)))
  ok x := Dat.ok x.a0 /\ Dat.ok x.a1 /\ Dat.ok x.a2 /\ Dat.ok x.a3
  len := by simp only [Xm, Dat.len]; (try simp only [Row.sz]); (try omega)
  of avs h := by
    obtain ⟨b0, r0, rfl, h0, g0⟩ := q0l h; obtain ⟨b1, r1, rfl, h1, g1⟩ := q0l g0; obtain ⟨b2, r2, rfl, h2, g2⟩ := q0l g1; obtain ⟨x0, rfl, k0⟩ := Dat.of (α := α) _ h0; obtain ⟨x1, rfl, k1⟩ := Dat.of (α := α) _ h1; obtain ⟨x2, rfl, k2⟩ := Dat.of (α := α) _ h2; obtain ⟨x3, rfl, k3⟩ := Dat.of (α := α) _ g2; exact ⟨⟨x0, x1, x2, x3⟩, by simp only [Row.row, X3], k0, k1, k2, k3⟩
structure Nu64 where
  n : Int
instance : Row Nu64 := ⟨1, fun x => [.v (.int .u64 x.n)]⟩
@[go_sem] theorem jh2 (x : Nu64) : Row.row x = [.v (.int .u64 x.n)] := rfl
instance : Dat Nu64 where
  ct := [.int .u64]
  ok x := inI .u64 x.n
  len := rfl
  of avs h := by
    simp only [q2n, qx7] at h; obtain ⟨_, _, rfl, ⟨n, rfl, hw⟩, rfl⟩ := h; exact ⟨⟨n⟩, rfl, hw⟩
structure GRec where
  K : Int
  V : Int
instance : Row GRec := ⟨2, fun x => [.v (.int .i64 x.K), .v (.int .i64 x.V)]⟩
@[go_sem] theorem jh3 (x : GRec) : Row.row x = [.v (.int .i64 x.K), .v (.int .i64 x.V)] := rfl
@[go_sem] theorem ji8 : Row.sz GRec = 2 := rfl
instance : Dat GRec where
  ct := Dat.ct Int ++ (Dat.ct Int)
  ok x := Dat.ok x.K /\ Dat.ok x.V
  len := rfl
  of avs h := by
    obtain ⟨b0, r0, rfl, h0, g0⟩ := q0l h; obtain ⟨x0, rfl, k0⟩ := Dat.of (α := Int) _ h0; obtain ⟨x1, rfl, k1⟩ := Dat.of (α := Int) _ g0; exact ⟨⟨x0, x1⟩, rfl, k0, k1⟩
structure GFeed where
  Node : Int
  Epoch : Int
  Rec : GRec
instance : Row GFeed := ⟨4, fun x => [.v (.int .i64 x.Node), .v (.int .i64 x.Epoch), .v (.int .i64 x.Rec.K), .v (.int .i64 x.Rec.V)]⟩
@[go_sem] theorem jf2 (x : GFeed) : Row.row x = [.v (.int .i64 x.Node), .v (.int .i64 x.Epoch), .v (.int .i64 x.Rec.K), .v (.int .i64 x.Rec.V)] := rfl
@[go_sem] theorem jh0 : Row.sz GFeed = 4 := rfl
instance : Dat GFeed where
  ct := Dat.ct Int ++ (Dat.ct Int ++ (Dat.ct GRec))
  ok x := Dat.ok x.Node /\ Dat.ok x.Epoch /\ Dat.ok x.Rec
  len := rfl
  of avs h := by
    obtain ⟨b0, r0, rfl, h0, g0⟩ := q0l h; obtain ⟨b1, r1, rfl, h1, g1⟩ := q0l g0; obtain ⟨x0, rfl, k0⟩ := Dat.of (α := Int) _ h0; obtain ⟨x1, rfl, k1⟩ := Dat.of (α := Int) _ h1; obtain ⟨x2, rfl, k2⟩ := Dat.of (α := GRec) _ g1; exact ⟨⟨x0, x1, x2⟩, rfl, k0, k1, k2⟩
structure GIns where
  Op : Int
  N : Int
instance : Row GIns := ⟨2, fun x => [.v (.int .i64 x.Op), .v (.int .i64 x.N)]⟩
@[go_sem] theorem jh4 (x : GIns) : Row.row x = [.v (.int .i64 x.Op), .v (.int .i64 x.N)] := rfl
@[go_sem] theorem jj0 : Row.sz GIns = 2 := rfl
instance : Dat GIns where
  ct := Dat.ct Int ++ (Dat.ct Int)
  ok x := Dat.ok x.Op /\ Dat.ok x.N
  len := rfl
  of avs h := by
    obtain ⟨b0, r0, rfl, h0, g0⟩ := q0l h; obtain ⟨x0, rfl, k0⟩ := Dat.of (α := Int) _ h0; obtain ⟨x1, rfl, k1⟩ := Dat.of (α := Int) _ g0; exact ⟨⟨x0, x1⟩, rfl, k0, k1⟩
structure GNode where
  Kind : Int
  Scope : Int
  Arg : Int
  Prog : List GIns
instance : Row GNode := ⟨4, fun x => [.v (.int .i64 x.Kind), .v (.int .i64 x.Scope), .v (.int .i64 x.Arg), .sl 2 (enc x.Prog)]⟩
@[go_sem] theorem jf1 (x : GNode) : Row.row x = [.v (.int .i64 x.Kind), .v (.int .i64 x.Scope), .v (.int .i64 x.Arg), .sl 2 (enc x.Prog)] := rfl
@[go_sem] theorem jg8 : Row.sz GNode = 4 := rfl
instance : Dat GNode where
  ct := Dat.ct Int ++ (Dat.ct Int ++ (Dat.ct Int ++ (Dat.ct (List GIns))))
  ok x := Dat.ok x.Kind /\ Dat.ok x.Scope /\ Dat.ok x.Arg /\ Dat.ok x.Prog
  len := rfl
  of avs h := by
    obtain ⟨b0, r0, rfl, h0, g0⟩ := q0l h; obtain ⟨b1, r1, rfl, h1, g1⟩ := q0l g0; obtain ⟨b2, r2, rfl, h2, g2⟩ := q0l g1; obtain ⟨x0, rfl, k0⟩ := Dat.of (α := Int) _ h0; obtain ⟨x1, rfl, k1⟩ := Dat.of (α := Int) _ h1; obtain ⟨x2, rfl, k2⟩ := Dat.of (α := Int) _ h2; obtain ⟨x3, rfl, k3⟩ := Dat.of (α := List GIns) _ g2; exact ⟨⟨x0, x1, x2, x3⟩, rfl, k0, k1, k2, k3⟩
structure GEdge where
  From : Int
  To : Int
  Port : Int
  Exchange : Bool
instance : Row GEdge := ⟨4, fun x => [.v (.int .i64 x.From), .v (.int .i64 x.To), .v (.int .i64 x.Port), .v (.bool x.Exchange)]⟩
@[go_sem] theorem jf3 (x : GEdge) : Row.row x = [.v (.int .i64 x.From), .v (.int .i64 x.To), .v (.int .i64 x.Port), .v (.bool x.Exchange)] := rfl
@[go_sem] theorem jh1 : Row.sz GEdge = 4 := rfl
instance : Dat GEdge where
  ct := Dat.ct Int ++ (Dat.ct Int ++ (Dat.ct Int ++ (Dat.ct Bool)))
  ok x := Dat.ok x.From /\ Dat.ok x.To /\ Dat.ok x.Port /\ Dat.ok x.Exchange
  len := rfl
  of avs h := by
    obtain ⟨b0, r0, rfl, h0, g0⟩ := q0l h; obtain ⟨b1, r1, rfl, h1, g1⟩ := q0l g0; obtain ⟨b2, r2, rfl, h2, g2⟩ := q0l g1; obtain ⟨x0, rfl, k0⟩ := Dat.of (α := Int) _ h0; obtain ⟨x1, rfl, k1⟩ := Dat.of (α := Int) _ h1; obtain ⟨x2, rfl, k2⟩ := Dat.of (α := Int) _ h2; obtain ⟨x3, rfl, k3⟩ := Dat.of (α := Bool) _ g2; exact ⟨⟨x0, x1, x2, x3⟩, rfl, k0, k1, k2, k3⟩
structure GGraph where
  Parent : List Int
  Bound : List Int
  Nodes : List GNode
  Edges : List GEdge
instance : Row GGraph := ⟨4, fun x => [.sl 1 (enc x.Parent), .sl 1 (enc x.Bound), .sl 4 (enc x.Nodes), .sl 4 (enc x.Edges)]⟩
@[go_sem] theorem jc4 (x : GGraph) : Row.row x = [.sl 1 (enc x.Parent), .sl 1 (enc x.Bound), .sl 4 (enc x.Nodes), .sl 4 (enc x.Edges)] := rfl
@[go_sem] theorem je8 : Row.sz GGraph = 4 := rfl
instance : Dat GGraph where
  ct := Dat.ct (List Int) ++ (Dat.ct (List Int) ++ (Dat.ct (List GNode) ++ (Dat.ct (List GEdge))))
  ok x := Dat.ok x.Parent /\ Dat.ok x.Bound /\ Dat.ok x.Nodes /\ Dat.ok x.Edges
  len := rfl
  of avs h := by
    obtain ⟨b0, r0, rfl, h0, g0⟩ := q0l h; obtain ⟨b1, r1, rfl, h1, g1⟩ := q0l g0; obtain ⟨b2, r2, rfl, h2, g2⟩ := q0l g1; obtain ⟨x0, rfl, k0⟩ := Dat.of (α := List Int) _ h0; obtain ⟨x1, rfl, k1⟩ := Dat.of (α := List Int) _ h1; obtain ⟨x2, rfl, k2⟩ := Dat.of (α := List GNode) _ h2; obtain ⟨x3, rfl, k3⟩ := Dat.of (α := List GEdge) _ g2; exact ⟨⟨x0, x1, x2, x3⟩, rfl, k0, k1, k2, k3⟩
structure GItem where
  Rec : GRec
  N : Int
instance : Row GItem := ⟨3, fun x => [.v (.int .i64 x.Rec.K), .v (.int .i64 x.Rec.V), .v (.int .i64 x.N)]⟩
@[go_sem] theorem j21 (x : GItem) : Row.row x = [.v (.int .i64 x.Rec.K), .v (.int .i64 x.Rec.V), .v (.int .i64 x.N)] := rfl
@[go_sem] theorem jg9 : Row.sz GItem = 3 := rfl
instance : Dat GItem where
  ct := Dat.ct GRec ++ (Dat.ct Int)
  ok x := Dat.ok x.Rec /\ Dat.ok x.N
  len := rfl
  of avs h := by
    obtain ⟨b0, r0, rfl, h0, g0⟩ := q0l h; obtain ⟨x0, rfl, k0⟩ := Dat.of (α := GRec) _ h0; obtain ⟨x1, rfl, k1⟩ := Dat.of (α := Int) _ g0; exact ⟨⟨x0, x1⟩, rfl, k0, k1⟩
structure GTime where
  D : Int
  C : Arr4 Int
instance : Row GTime := ⟨5, fun x => [.v (.int .i64 x.D), .v (.int .i64 x.C.a0), .v (.int .i64 x.C.a1), .v (.int .i64 x.C.a2), .v (.int .i64 x.C.a3)]⟩
@[go_sem] theorem jf0 (x : GTime) : Row.row x = [.v (.int .i64 x.D), .v (.int .i64 x.C.a0), .v (.int .i64 x.C.a1), .v (.int .i64 x.C.a2), .v (.int .i64 x.C.a3)] := rfl
@[go_sem] theorem jg7 : Row.sz GTime = 5 := rfl
instance : Dat GTime where
  ct := Dat.ct Int ++ (Dat.ct (Arr4 Int))
  ok x := Dat.ok x.D /\ Dat.ok x.C
  len := rfl
  of avs h := by
    obtain ⟨b0, r0, rfl, h0, g0⟩ := q0l h; obtain ⟨x0, rfl, k0⟩ := Dat.of (α := Int) _ h0; obtain ⟨x1, rfl, k1⟩ := Dat.of (α := Arr4 Int) _ g0; exact ⟨⟨x0, x1⟩, rfl, k0, k1⟩
structure GMean_point where
  node : Int
  time : GTime
instance : Row GMean_point := ⟨6, fun x => [.v (.int .i64 x.node), .v (.int .i64 x.time.D), .v (.int .i64 x.time.C.a0), .v (.int .i64 x.time.C.a1), .v (.int .i64 x.time.C.a2), .v (.int .i64 x.time.C.a3)]⟩
@[go_sem] theorem j67 (x : GMean_point) : Row.row x = [.v (.int .i64 x.node), .v (.int .i64 x.time.D), .v (.int .i64 x.time.C.a0), .v (.int .i64 x.time.C.a1), .v (.int .i64 x.time.C.a2), .v (.int .i64 x.time.C.a3)] := rfl
@[go_sem] theorem j7a : Row.sz GMean_point = 6 := rfl
instance : Dat GMean_point where
  ct := Dat.ct Int ++ (Dat.ct GTime)
  ok x := Dat.ok x.node /\ Dat.ok x.time
  len := rfl
  of avs h := by
    obtain ⟨b0, r0, rfl, h0, g0⟩ := q0l h; obtain ⟨x0, rfl, k0⟩ := Dat.of (α := Int) _ h0; obtain ⟨x1, rfl, k1⟩ := Dat.of (α := GTime) _ g0; exact ⟨⟨x0, x1⟩, rfl, k0, k1⟩
structure GCount where
  Time : GTime
  N : Int
instance : Row GCount := ⟨6, fun x => [.v (.int .i64 x.Time.D), .v (.int .i64 x.Time.C.a0), .v (.int .i64 x.Time.C.a1), .v (.int .i64 x.Time.C.a2), .v (.int .i64 x.Time.C.a3), .v (.int .i64 x.N)]⟩
@[go_sem] theorem jc5 (x : GCount) : Row.row x = [.v (.int .i64 x.Time.D), .v (.int .i64 x.Time.C.a0), .v (.int .i64 x.Time.C.a1), .v (.int .i64 x.Time.C.a2), .v (.int .i64 x.Time.C.a3), .v (.int .i64 x.N)] := rfl
@[go_sem] theorem je9 : Row.sz GCount = 6 := rfl
instance : Dat GCount where
  ct := Dat.ct GTime ++ (Dat.ct Int)
  ok x := Dat.ok x.Time /\ Dat.ok x.N
  len := rfl
  of avs h := by
    obtain ⟨b0, r0, rfl, h0, g0⟩ := q0l h; obtain ⟨x0, rfl, k0⟩ := Dat.of (α := GTime) _ h0; obtain ⟨x1, rfl, k1⟩ := Dat.of (α := Int) _ g0; exact ⟨⟨x0, x1⟩, rfl, k0, k1⟩
structure GOut where
  Node : Int
  Epoch : Int
  Rec : GRec
instance : Row GOut := ⟨4, fun x => [.v (.int .i64 x.Node), .v (.int .i64 x.Epoch), .v (.int .i64 x.Rec.K), .v (.int .i64 x.Rec.V)]⟩
@[go_sem] theorem j4h (x : GOut) : Row.row x = [.v (.int .i64 x.Node), .v (.int .i64 x.Epoch), .v (.int .i64 x.Rec.K), .v (.int .i64 x.Rec.V)] := rfl
@[go_sem] theorem ji9 : Row.sz GOut = 4 := rfl
instance : Dat GOut where
  ct := Dat.ct Int ++ (Dat.ct Int ++ (Dat.ct GRec))
  ok x := Dat.ok x.Node /\ Dat.ok x.Epoch /\ Dat.ok x.Rec
  len := rfl
  of avs h := by
    obtain ⟨b0, r0, rfl, h0, g0⟩ := q0l h; obtain ⟨b1, r1, rfl, h1, g1⟩ := q0l g0; obtain ⟨x0, rfl, k0⟩ := Dat.of (α := Int) _ h0; obtain ⟨x1, rfl, k1⟩ := Dat.of (α := Int) _ h1; obtain ⟨x2, rfl, k2⟩ := Dat.of (α := GRec) _ g1; exact ⟨⟨x0, x1, x2⟩, rfl, k0, k1, k2⟩
structure GMean_runner where
  g : GGraph
  ins : List GMean_point × List (Arr2 (List GItem))
  past : List Int × List (List GCount)
  bags : List GMean_point × List (List GItem)
  work : Int
  most : Int
  outs : List GOut
  e : Int
structure GProg_machine where
  r : GRec
  stack : List Int
  out : List GRec
  at_ : Int
  bad : Int
instance : Row GProg_machine := ⟨6, fun x => [.v (.int .i64 x.r.K), .v (.int .i64 x.r.V), .sl 1 (enc x.stack), .sl 2 (enc x.out), .v (.int .i64 x.at_), .v (.int .i64 x.bad)]⟩
@[go_sem] theorem j3f (x : GProg_machine) : Row.row x = [.v (.int .i64 x.r.K), .v (.int .i64 x.r.V), .sl 1 (enc x.stack), .sl 2 (enc x.out), .v (.int .i64 x.at_), .v (.int .i64 x.bad)] := rfl
@[go_sem] theorem j42 : Row.sz GProg_machine = 6 := rfl
instance : Dat GProg_machine where
  ct := Dat.ct GRec ++ (Dat.ct (List Int) ++ (Dat.ct (List GRec) ++ (Dat.ct Int ++ (Dat.ct Int))))
  ok x := Dat.ok x.r /\ Dat.ok x.stack /\ Dat.ok x.out /\ Dat.ok x.at_ /\ Dat.ok x.bad
  len := rfl
  of avs h := by
    obtain ⟨b0, r0, rfl, h0, g0⟩ := q0l h; obtain ⟨b1, r1, rfl, h1, g1⟩ := q0l g0; obtain ⟨b2, r2, rfl, h2, g2⟩ := q0l g1; obtain ⟨b3, r3, rfl, h3, g3⟩ := q0l g2; obtain ⟨x0, rfl, k0⟩ := Dat.of (α := GRec) _ h0; obtain ⟨x1, rfl, k1⟩ := Dat.of (α := List Int) _ h1; obtain ⟨x2, rfl, k2⟩ := Dat.of (α := List GRec) _ h2; obtain ⟨x3, rfl, k3⟩ := Dat.of (α := Int) _ h3; obtain ⟨x4, rfl, k4⟩ := Dat.of (α := Int) _ g3; exact ⟨⟨x0, x1, x2, x3, x4⟩, rfl, k0, k1, k2, k3, k4⟩
structure GOps_maker where
  out : List GItem
  many : Int
instance : Row GOps_maker := ⟨2, fun x => [.sl 3 (enc x.out), .v (.int .i64 x.many)]⟩
@[go_sem] theorem j7l (x : GOps_maker) : Row.row x = [.sl 3 (enc x.out), .v (.int .i64 x.many)] := rfl
@[go_sem] theorem j8r : Row.sz GOps_maker = 2 := rfl
instance : Dat GOps_maker where
  ct := Dat.ct (List GItem) ++ (Dat.ct Int)
  ok x := Dat.ok x.out /\ Dat.ok x.many
  len := rfl
  of avs h := by
    obtain ⟨b0, r0, rfl, h0, g0⟩ := q0l h; obtain ⟨x0, rfl, k0⟩ := Dat.of (α := List GItem) _ h0; obtain ⟨x1, rfl, k1⟩ := Dat.of (α := Int) _ g0; exact ⟨⟨x0, x1⟩, rfl, k0, k1⟩
structure GOps_wide where
  hi : Int
  lo : Nu64
instance : Row GOps_wide := ⟨2, fun x => [.v (.int .i64 x.hi), .v (.int .u64 x.lo.n)]⟩
@[go_sem] theorem j8s (x : GOps_wide) : Row.row x = [.v (.int .i64 x.hi), .v (.int .u64 x.lo.n)] := rfl
@[go_sem] theorem j96 : Row.sz GOps_wide = 2 := rfl
instance : Dat GOps_wide where
  ct := Dat.ct Int ++ (Dat.ct Nu64)
  ok x := Dat.ok x.hi /\ Dat.ok x.lo
  len := rfl
  of avs h := by
    obtain ⟨b0, r0, rfl, h0, g0⟩ := q0l h; obtain ⟨x0, rfl, k0⟩ := Dat.of (α := Int) _ h0; obtain ⟨x1, rfl, k1⟩ := Dat.of (α := Nu64) _ g0; exact ⟨⟨x0, x1⟩, rfl, k0, k1⟩
instance : Key GMean_point where
  kv x := .agg ⟨[.int .i64 x.node, .int .i64 x.time.D, .int .i64 x.time.C.a0, .int .i64 x.time.C.a1, .int .i64 x.time.C.a2, .int .i64 x.time.C.a3]⟩
  keq a b := (a.node == b.node) && (a.time.D == b.time.D) && (a.time.C.a0 == b.time.C.a0) && (a.time.C.a1 == b.time.C.a1) && (a.time.C.a2 == b.time.C.a2) && (a.time.C.a3 == b.time.C.a3)
  keq_iff := by
    intro a b; obtain ⟨a1, ⟨a2, ⟨a3, a4, a5, a6⟩⟩⟩ := a; obtain ⟨b1, ⟨b2, ⟨b3, b4, b5, b6⟩⟩⟩ := b
    constructor
    . intro h; simp only [X4, beq_iff_eq] at h; simp [h]
    . intro h; cases h; simp
  okb a := (Key.okb a.node) && (Key.okb a.time.D) && (Key.okb a.time.C.a0) && (Key.okb a.time.C.a1) && (Key.okb a.time.C.a2) && (Key.okb a.time.C.a3)
  inj := by
    intro a b h; obtain ⟨a1, ⟨a2, ⟨a3, a4, a5, a6⟩⟩⟩ := a; obtain ⟨b1, ⟨b2, ⟨b3, b4, b5, b6⟩⟩⟩ := b; simp at h; simp [h]
theorem j53 : laidOutB pp = true := by kernel_rfl
theorem z1z : Go.Maps.Keyed pp 3 := Go.Maps.int_keyed (q := .i64) (by kernel_rfl)
theorem j2n (p : Int) (h : Key.okb p = true) : ∃ l, keyOf pp 3 (Key.kv p) = some l := keyOf_i64 (by kernel_rfl) h
theorem q55 : Go.Maps.Keyed pp 81 := Go.Maps.Keyed.of_law (deep_law_laid j53 (m := 6) (by omega) (of_decide_eq_true (by kernel_rfl)) (by kernel_rfl) (by kernel_rfl))
theorem z5p (p : GMean_point) (h : Key.okb p = true) : ∃ l, keyOf pp 81 (Key.kv p) = some l := by
  obtain ⟨a1, ⟨a2, ⟨a3, a4, a5, a6⟩⟩⟩ := p; replace h : (Key.okb a1 && Key.okb a2 && Key.okb a3 && Key.okb a4 && Key.okb a5 && Key.okb a6) = true := h; simp only [X4] at h; obtain ⟨⟨⟨⟨⟨h1, h2⟩, h3⟩, h4⟩, h5⟩, h6⟩ := h; exact j0e (by rw [Tryz.underlying81]) (by kernel_rfl) (by kernel_rfl) (by kernel_rfl) (by kernel_rfl) (Xo.2 ⟨z01 h1, Xo.2 ⟨z01 h2, Xo.2 ⟨z01 h3, Xo.2 ⟨z01 h4, Xo.2 ⟨z01 h5, Xo.2 ⟨z01 h6, fun _ h => nomatch h⟩⟩⟩⟩⟩⟩)
@[go_sem] theorem jj7 : EqT pp 67 [some .i64, some .i64, some .i64, some .i64] := jc1 (by kernel_rfl) (by kernel_rfl) (by kernel_rfl)
attribute [go_sem] Tryz.ntmps3 Tryz.results3 Tryz.ntmps4 Tryz.results4 Tryz.ntmps5 Tryz.results5 Tryz.ntmps6 Tryz.results6 Tryz.ntmps7 Tryz.results7 Tryz.ntmps8 Tryz.results8 Tryz.ntmps9 Tryz.results9 Tryz.ntmps10 Tryz.results10 Tryz.ntmps11 Tryz.results11 Tryz.ntmps12 Tryz.results12 Tryz.ntmps13 Tryz.results13 Tryz.ntmps14 Tryz.results14 Tryz.ntmps15 Tryz.results15 Tryz.ntmps16 Tryz.results16 Tryz.ntmps17 Tryz.results17 Tryz.ntmps18 Tryz.results18 Tryz.ntmps19 Tryz.results19 Tryz.ntmps20 Tryz.results20 Tryz.ntmps21 Tryz.results21 Tryz.ntmps22 Tryz.results22 Tryz.ntmps23 Tryz.results23 Tryz.ntmps24 Tryz.results24 Tryz.ntmps25 Tryz.results25 Tryz.ntmps26 Tryz.results26 Tryz.ntmps27 Tryz.results27 Tryz.ntmps28 Tryz.results28 Tryz.ntmps29 Tryz.results29 Tryz.ntmps30 Tryz.results30 Tryz.ntmps31 Tryz.results31 Tryz.ntmps32 Tryz.results32 Tryz.ntmps33 Tryz.results33 Tryz.ntmps34 Tryz.results34 Tryz.ntmps35 Tryz.results35 Tryz.ntmps36 Tryz.results36 Tryz.ntmps39 Tryz.results39 Tryz.ntmps40 Tryz.results40 Tryz.ntmps41 Tryz.results41 Tryz.ntmps42 Tryz.results42 Tryz.ntmps43 Tryz.results43 Tryz.ntmps44 Tryz.results44 Tryz.ntmps45 Tryz.results45 Tryz.ntmps46 Tryz.results46 Tryz.ntmps47 Tryz.results47 Tryz.ntmps49 Tryz.results49 Tryz.ntmps50 Tryz.results50 Tryz.ntmps51 Tryz.results51 Tryz.ntmps52 Tryz.results52 Tryz.ntmps53 Tryz.results53 Tryz.ntmps54 Tryz.results54 Tryz.ntmps55 Tryz.results55 Tryz.ntmps56 Tryz.results56 Tryz.ntmps57 Tryz.results57 Tryz.ntmps69 Tryz.results69 Tryz.ntmps70 Tryz.results70 Tryz.ntmps71 Tryz.results71 Tryz.ntmps72 Tryz.results72 Tryz.ntmps73 Tryz.results73 Tryz.ntmps74 Tryz.results74 Tryz.ntmps75 Tryz.results75 Tryz.ntmps76 Tryz.results76 Tryz.ntmps77 Tryz.results77 Tryz.ntmps78 Tryz.results78 Tryz.ntmps79 Tryz.results79 Tryz.ntmps87 Tryz.results87 Tryz.ntmps88 Tryz.results88 Tryz.ntmps89 Tryz.results89 Tryz.ntmps90 Tryz.results90 Tryz.ntmps91 Tryz.results91 Tryz.ntmps92 Tryz.results92 Tryz.ntmps93 Tryz.results93 Tryz.ntmps94 Tryz.results94 Tryz.ntmps95 Tryz.results95 Tryz.ntmps96 Tryz.results96 Tryz.ntmps97 Tryz.results97 Tryz.ntmps98 Tryz.results98 Tryz.ntmps99 Tryz.results99 Tryz.ntmps100 Tryz.results100 Tryz.ntmps101 Tryz.results101 Tryz.ntmps102 Tryz.results102 Tryz.ntmps108 Tryz.results108 Tryz.ntmps109 Tryz.results109 Tryz.ntmps110 Tryz.results110 Tryz.ntmps111 Tryz.results111 Tryz.ntmps112 Tryz.results112 Tryz.ntmps113 Tryz.results113 Tryz.ntmps114 Tryz.results114 Tryz.ntmps115 Tryz.results115 Tryz.ntmps116 Tryz.results116 Tryz.ntmps117 Tryz.results117 Tryz.ntmps118 Tryz.results118 Tryz.ntmps122 Tryz.results122 Tryz.ntmps123 Tryz.results123 Tryz.ntmps124 Tryz.results124 Tryz.ntmps125 Tryz.results125 Tryz.ntmps126 Tryz.results126 Tryz.ntmps127 Tryz.results127 Tryz.ntmps128 Tryz.results128 Tryz.ntmps129 Tryz.results129 Tryz.ntmps130 Tryz.results130 Tryz.ntmps131 Tryz.results131 Tryz.ntmps133 Tryz.results133 Tryz.ntmps134 Tryz.results134 Tryz.ntmps137 Tryz.results137 Tryz.ntmps141 Tryz.results141 Tryz.ntmps142 Tryz.results142 Tryz.ntmps143 Tryz.results143 Tryz.ntmps145 Tryz.results145 Tryz.ntmps146 Tryz.results146 Tryz.ntmps149 Tryz.results149 Tryz.ntmps150 Tryz.results150 Tryz.ntmps152 Tryz.results152 Tryz.ntmps153 Tryz.results153 Tryz.ntmps155 Tryz.results155 Tryz.ntmps159 Tryz.results159 Tryz.ntmps160 Tryz.results160 Tryz.ntmps161 Tryz.results161 Tryz.ntmps162 Tryz.results162 Tryz.ntmps163 Tryz.results163 Tryz.ntmps164 Tryz.results164 Tryz.ntmps165 Tryz.results165
instance : Inhabited GOut := ⟨⟨0, 0, ⟨0, 0⟩⟩⟩
def q8s (i_0 : Int) : Option Int :=
 (if (i_0 == 0) = true then some 1048576
 else some 64)
instance z7e (i_0 : Int) : Ct pp 108 (q8s i_0) [.v (.int .i64 i_0)] fun r => (.v (.int .i64 r)) := ctI Tryz.func108 rfl (by rw [q8s]; exact au1)
def qn3 (t_0 : GTime) (rec_1 : Int -> Option Bool) : Int -> Option Bool :=
 fun t15_1 =>
 (if (decide (t15_1 < 4)) = true then q9 (idx ([t_0.C.a0, t_0.C.a1, t_0.C.a2, t_0.C.a3] : List Int) t15_1) (fun xv_1 =>
 (if (decide (xv_1 < 0)) = true then some false
 else (if (decide (t15_1 < t_0.D)) = true then q9 (q8s t15_1) (fun v_2 =>
 (if ((decide (v_2 < xv_1)) || ((decide (t_0.D <= t15_1)) && (!(xv_1 == 0)))) = true then some false
 else rec_1 (i64.wrap (t15_1 + 1))))
 else (if ((decide (t_0.D <= t15_1)) && (!(xv_1 == 0))) = true then some false
 else rec_1 (i64.wrap (t15_1 + 1))))))
 else some true)
def q6s (t_0 : GTime) : Option Bool :=
 (if ((decide (t_0.D < 1)) || (decide (4 < t_0.D))) = true then some false
 else q04 (qn3 t_0) rounds 0)
instance zg0 (t_0 : GTime) : Ct pp 71 (q6s t_0) [.agg (Row.row t_0)] fun r => (.v (.bool r)) := ctK Tryz.func71 rfl (by rw [q6s]) (by
 intro r h F; refine sM ?_; refine sg fun _ Q2 => ?_; refine sM ?_; refine sB h (fun _ h => ?_) fun _ h => ?_
 . exact au
 .
  refine y9 (q8 Q2 (jg fun _ Q5 => ?_)); refine sM ?_; refine w9 fun _ Q7 => ?_; refine q12 h [1, 14] (fun t15_1 => ([(15, .v (.int .i64 t15_1))], [(0, .box (Row.row t_0))])) 1 ?_; rintro m_1 t15_1 h _ Q8; rw [qn3] at h; refine sM ?_; refine sg fun _ Q10 => ?_; refine sB h (fun _ h => ?_) fun _ h => ?_
  . refine y9 (q8 Q10 (sg fun _ Q11 => ?_)); refine w9 fun _ Q12 => ?_; refine sg fun _ Q13 => ?_; obtain ⟨xv_1, ex1, h⟩ := z8 h; obtain ⟨f1a, f1b, f1c, fxv_1d⟩ := j2p (f := (fun y => AV.v (.int .i64 y))) ex1; simp only [Xr, Xp, Xs, Xw, Xz, Xe, Xg, Xc, Xq, q6n] at f1b f1c fxv_1d; simp only [go_sem, f1a, f1b, f1c, fxv_1d]; refine ai ?_; refine ai ?_; simp only [Xi, Xt, fxv_1d, Xx, Xu, true_and]; exact au
  . exact au)
def z4t (a_0 : GTime) (b_0 : GTime) : Option Bool :=
 q9 (q6s a_0) (fun v_0 =>
 (if v_0 = true then q9 (q6s b_0) (fun v_1 =>
 some (v_1 && (a_0.D == b_0.D)))
 else some false))
instance j9x (a_0 : GTime) (b_0 : GTime) : Ct pp 133 (z4t a_0 b_0) [.agg (Row.row a_0), .agg (Row.row b_0)] fun r => (.v (.bool r)) := ctI Tryz.func133 rfl (by rw [z4t]; exact au1)
def z8u (a_0 : GTime) (b_0 : GTime) (rec_1 : Int -> Option Bool) : Int -> Option Bool :=
 fun t10_1 =>
 (if (decide (t10_1 < 4)) = true then q02 (0 <= t10_1 /\ t10_1 < 4) (
 q9 (idx ([a_0.C.a0, a_0.C.a1, a_0.C.a2, a_0.C.a3] : List Int) t10_1) (fun xv_2 =>
 q02 (0 <= t10_1 /\ t10_1 < 4) (
 q9 (idx ([b_0.C.a0, b_0.C.a1, b_0.C.a2, b_0.C.a3] : List Int) t10_1) (fun xv_3 =>
 (if (decide (xv_3 < xv_2)) = true then some false
 else rec_1 (i64.wrap (t10_1 + 1)))))))
 else some true)
def z9v (a_0 : GTime) (b_0 : GTime) : Option Bool :=
 q9 (z4t a_0 b_0) (fun v_0 =>
 (if (!v_0) = true then some false
 else q04 (z8u a_0 b_0) rounds 0))
instance j0j (a_0 : GTime) (b_0 : GTime) : Ct pp 109 (z9v a_0 b_0) [.agg (Row.row a_0), .agg (Row.row b_0)] fun r => (.v (.bool r)) := ctK Tryz.func109 rfl (by rw [z9v]) (by
 intro r h F; refine sM ?_; refine sg fun _ Q2 => ?_; refine sg fun _ Q3 => ?_; simp only [go_sem]; refine q53 h fun v_0 h => ?_; simp only [go_sem]; refine q8 Q3 (sB h (fun _ h => ?_) fun _ h => ?_)
 . exact au
 .
  refine y9 (q8 Q2 (jg fun _ Q5 => ?_)); refine sM ?_; refine w9 fun _ Q7 => ?_; refine q12 h [2, 3] (fun t10_1 => ([(10, .v (.int .i64 t10_1))], [(0, .box (Row.row a_0)), (1, .box (Row.row b_0))])) 2 ?_; rintro m_1 t10_1 h _ Q8; rw [z8u] at h; refine sM ?_; refine sg fun _ Q10 => ?_; refine sB h (fun _ h => ?_) fun _ h => ?_
  . refine y9 (q8 Q10 (sg fun _ Q11 => ?_)); refine w9 fun _ Q12 => ?_; refine sM ?_; refine sg fun _ Q14 => ?_; refine q0e ?_; refine je2 ?_; obtain ⟨F, h⟩ := bG F h; obtain ⟨xv_2, ex2, h⟩ := z8 h; obtain ⟨f2a, f2b, f2c, fxv_2d⟩ := qu3 (f := (fun y => AV.v (.int .i64 y))) [.v (.int .i64 a_0.D)] [] ex2; simp only [Xr, Xp, Xs, Xw, Xz, Xe, Xg, Xc, Xq, q6n] at f2b f2c fxv_2d; obtain ⟨F, h⟩ := bG F h; obtain ⟨xv_3, ex3, h⟩ := z8 h; obtain ⟨f3a, f3b, f3c, fxv_3d⟩ := qu3 (f := (fun y => AV.v (.int .i64 y))) [.v (.int .i64 b_0.D)] [] ex3; simp only [Xr, Xp, Xs, Xw, Xz, Xe, Xg, Xc, Xq, q6n] at f3b f3c fxv_3d; simp only [go_sem, f2a, f2b, f2c, fxv_2d, f3a, f3b, f3c, fxv_3d, F]; refine ai ?_; refine ai ?_; simp only [Xi, Xt, fxv_2d, Xx, Xu, true_and, Xi, Xt, fxv_3d, Xx, Xu, true_and]; exact au
  . exact au)
def q2j (nv_0 : Int) (size_0 : Int) : Option Bool :=
 some ((decide (0 <= nv_0)) && (decide (nv_0 < size_0)))
instance j3i (nv_0 : Int) (size_0 : Int) : Ct pp 88 (q2j nv_0 size_0) [.v (.int .i64 nv_0), .v (.int .i64 size_0)] fun r => (.v (.bool r)) := ctI Tryz.func88 rfl (by rw [q2j]; exact au1)
def qo5 (g_0 : GGraph) (rec_1 : Int × Int -> Option Int) : Int × Int -> Option Int :=
 fun (d_1, s_1) =>
 q9 (q2j s_1 (g_0.Parent.length : Int)) (fun v_2 =>
 (if (v_2 && (decide (d_1 <= 8))) = true then q9 (idx g_0.Parent s_1) (fun xv_2 =>
 rec_1 (i64.wrap (d_1 + 1), xv_2))
 else some d_1))
def qn2 (g_0 : GGraph) (scope_0 : Int) : Option Int :=
 q04 (qo5 g_0) rounds (0, scope_0)
instance j5g (g_0 : GGraph) (scope_0 : Int) : Ct pp 89 (qn2 g_0 scope_0) [.agg (Row.row g_0), .v (.int .i64 scope_0)] fun r => (.v (.int .i64 r)) := ctK Tryz.func89 rfl (by rw [qn2]) (by
 intro r h F; refine sM ?_; refine sM ?_; refine jg fun _ Q3 => ?_; refine sM ?_; refine w9 fun _ Q5 => ?_; refine q12 h [2] (fun x => ([(5, .v (.int .i64 x.1)), (6, .v (.int .i64 x.2))], [(0, .box (Row.row g_0))])) 1 ?_; rintro m_1 ⟨d_1, s_1⟩ h _ Q6; rw [qo5] at h; exact au)
def qe1 (g_0 : GGraph) (s_0 : Int) : Option Bool :=
 (if (s_0 == 0) = true then q9 (idx g_0.Parent 0) (fun xv_0 =>
 (if (xv_0 == (-1)) = true then q9 (idx g_0.Bound 0) (fun xv_1 =>
 some (xv_1 == 0))
 else some false))
 else q9 (idx g_0.Parent s_0) (fun xv_2 =>
 q9 (q2j xv_2 s_0) (fun v_0 =>
 (if v_0 = true then q9 (idx g_0.Bound s_0) (fun xv_3 =>
 (if (decide (1 <= xv_3)) = true then (if (decide (xv_3 <= 64)) = true then q9 (qn2 g_0 s_0) (fun v_1 =>
 some (decide (v_1 <= 4)))
 else some false)
 else some false))
 else some false))))
instance j5b (g_0 : GGraph) (s_0 : Int) : Ct pp 52 (qe1 g_0 s_0) [.agg (Row.row g_0), .v (.int .i64 s_0)] fun r => (.v (.bool r)) := ctI Tryz.func52 rfl (by rw [qe1]; exact au1)
def qe9 (s_0 : List GNode) (f_0 : GNode -> Option Bool) (rec_1 : Int -> Option Int) : Int -> Option Int :=
 fun t8_1 =>
 (if (decide (t8_1 < (s_0.length : Int))) = true then q9 (idx s_0 t8_1) (fun xv_2 =>
 q9 (f_0 xv_2) (fun v_2 =>
 (if v_2 = true then some t8_1
 else rec_1 (i64.wrap (t8_1 + 1)))))
 else some (-1))
def q8k (s_0 : List GNode) (f_0 : GNode -> Option Bool) : Option Int :=
 q04 (qe9 s_0 f_0) rounds 0
theorem qx2 (s_0 : List GNode) (f_0 : GNode -> Option Bool) (g_f_0 : FuncId) (c_f_0 : List AV) (F_f_0 : q08 c_f_0 = true) (E_f_0 : d9 pp g_f_0 = true) (H_f_0 : ∀ (x0 : GNode) (r : Bool), f_0 x0 = some r -> PureS pp g_f_0 ([.agg (Row.row x0)] ++ c_f_0) 0 (.v (.bool r))) (r : Int) (h : q8k s_0 f_0 = some r) : PureS pp 33 [.sl 4 (enc s_0), .clo g_f_0 c_f_0] 0 (.v (.int .i64 r)) := by
 refine ptI Tryz.func33 rfl ?_; rw [q8k] at h; have F := trivial; refine sM ?_; refine jg fun _ Q2 => ?_; refine sM ?_; refine w9 fun _ Q4 => ?_; refine q12 h [0, 1, 7] (fun t8_1 => ([(8, .v (.int .i64 t8_1))], [])) 0 ?_; rintro m_1 t8_1 h _ Q5; rw [qe9] at h; refine sM ?_; refine sg fun _ Q7 => ?_; refine sB h (fun _ h => ?_) fun _ h => ?_
 .
  refine y9 (q8 Q7 (sg fun _ Q8 => ?_)); refine w9 fun _ Q9 => ?_; refine sM ?_; refine sg fun _ Q11 => ?_; obtain ⟨xv_2, F, h⟩ := bI F h; obtain ⟨v_2, ev_2, h⟩ := z8 h; simp only [go_sem, E_f_0, F]; refine ai ?_; refine q6c (H_f_0 xv_2 v_2 ev_2) (by rfl) (by simp [go_sem, q08, q0g, F_f_0]) ?_; simp only [go_sem]; refine q8 Q11 (sB h (fun _ h => ?_) fun _ h => ?_)
  . refine sM ?_; refine q0a (q4o Q9 (q3l Q8 (q7o Q5 (q4o Q4 (q3l Q2 ?_))))); simp only [go_sem]; obtain rfl := Xd h; refine q2x rfl ?_; exact leA
  . refine y9 (q05 Q9 (q8 Q8 ?_)); simp only [go_sem]; refine p8 Q5 ?_; exact nxC _ h [] leA
 . refine q0w (q29 Q7 (q0x Q5 (q0p Q4 (q8 Q2 (sM ?_))))); refine q0a ?_; simp only [go_sem]; obtain rfl := Xd h; refine q2x rfl ?_; exact leA
def q2k (s_0 : List GNode) (f_0 : GNode -> Option Bool) : Option Bool :=
 q9 (q8k s_0 f_0) (fun v_0 =>
 some (decide (0 <= v_0)))
theorem q9r (s_0 : List GNode) (f_0 : GNode -> Option Bool) (g_f_0 : FuncId) (c_f_0 : List AV) (F_f_0 : q08 c_f_0 = true) (E_f_0 : d9 pp g_f_0 = true) (H_f_0 : ∀ (x0 : GNode) (r : Bool), f_0 x0 = some r -> PureS pp g_f_0 ([.agg (Row.row x0)] ++ c_f_0) 0 (.v (.bool r))) (r : Bool) (h : q2k s_0 f_0 = some r) : PureS pp 12 [.sl 4 (enc s_0), .clo g_f_0 c_f_0] 0 (.v (.bool r)) := by
 refine ptI Tryz.func12 rfl ?_; rw [q2k] at h; have F := trivial; refine sM ?_; refine sg fun _ Q2 => ?_; obtain ⟨v_0, ev_0, h⟩ := z8 h; simp only [go_sem]; refine q6c (qx2 s_0 f_0 g_f_0 c_f_0 F_f_0 E_f_0 H_f_0 v_0 ev_0) (by rfl) (by simp [go_sem, q08, q0g, F_f_0]) ?_; simp only [go_sem]; refine q8 Q2 (q0a ?_); simp only [go_sem]; obtain rfl := Xd h; refine q2x rfl ?_; exact leA
def q86 (xv_0 : GNode) (cap_0 : Int) : Option Bool :=
 some (xv_0.Scope == cap_0)
instance z3u (xv_0 : GNode) (cap_0 : Int) : Ct pp 123 (q86 xv_0 cap_0) [.agg (Row.row xv_0), .el 1 [[.v (.int .i64 cap_0)]] 0 0] fun r => (.v (.bool r)) := ctI Tryz.func123 rfl (by rw [q86]; exact au1)
def qj6 (op_0 : Int) : Option Bool :=
 some ((op_0 == 14) || (op_0 == 15))
instance j6i (op_0 : Int) : Ct pp 124 (qj6 op_0) [.v (.int .i64 op_0)] fun r => (.v (.bool r)) := ctI Tryz.func124 rfl (by rw [qj6]; exact au1)
def q7g (g_0 : GGraph) (nv_0 : Int) (xv_0 : GNode) (fresh_2 : Bool) : Option Bool :=
 (if fresh_2 = true then q02 (0 <= 0 /\ 0 <= nv_0 /\ nv_0 <= (g_0.Nodes.length : Int)) (
 q9 (q2k (Xb (nv_0.toNat) g_0.Nodes) (fun x0_ => q86 x0_ xv_0.Scope)) (fun v_0 =>
 some (!v_0)))
 else some false)
def qm1 (g_0 : GGraph) (nv_0 : Int) (xv_0 : GNode) (xv_2 : Int) (rec_2 : Bool × Int -> Option Bool) : Bool × Int -> Option Bool :=
 fun (fresh_4, p_3) =>
 (if (decide (0 <= p_3)) = true then (if (p_3 == xv_0.Scope) = true then some true
 else q9 (idx g_0.Parent p_3) (fun xv_8 =>
 rec_2 ((fresh_4 || (p_3 == xv_2)), xv_8)))
 else q7g g_0 nv_0 xv_0 fresh_4)
def q9z (g_0 : GGraph) (nv_0 : Int) : Option Bool :=
 q9 (idx g_0.Nodes nv_0) (fun xv_0 =>
 (if (nv_0 == 0) = true then some (xv_0.Scope == 0)
 else q9 (idx g_0.Nodes (i64.wrap (nv_0 - 1))) (fun xv_1 =>
 q9 (idx g_0.Parent xv_0.Scope) (fun xv_2 =>
 q04 (qm1 g_0 nv_0 xv_0 xv_2) rounds (false, xv_1.Scope)))))
instance j3j (g_0 : GGraph) (nv_0 : Int) : Ct pp 91 (q9z g_0 nv_0) [.agg (Row.row g_0), .v (.int .i64 nv_0)] fun r => (.v (.bool r)) := ctK Tryz.func91 rfl (by rw [q9z]) (by
 intro r h F; refine sM ?_; refine sg fun _ Q2 => ?_; obtain ⟨xv_0, F, h⟩ := bI F h; simp only [go_sem, F]; refine ai ?_; refine q8 Q2 (sg fun _ Q3 => ?_); refine sM ?_; refine sB h (fun _ h => ?_) fun _ h => ?_
 . exact au
 .
  refine y9 (q8 Q3 (sg fun _ Q6 => ?_)); obtain ⟨xv_1, F, h⟩ := bI F h; simp only [go_sem, F]; refine ai ?_; refine q8 Q6 (sg fun _ Q7 => ?_); obtain ⟨xv_2, F, h⟩ := bI F h; simp only [go_sem, F]; refine ai ?_; refine q8 Q7 (sM ?_); refine q5r (fun (fresh_2 : Bool) => q7g g_0 nv_0 xv_0 fresh_2 = some r) [1, 2, 5] (fun fresh_2 => ([(8, .v (.bool fresh_2))], [(0, .box (Row.row g_0)), (1, .box [.v (.int .i64 xv_0.Scope)])])) 2 ?_ ?_
  . intro _ Q10; refine sM ?_; refine w9 fun _ Q12 => ?_; refine q12 h [1, 2, 5, 7] (fun x => ([(8, .v (.bool x.1)), (9, .v (.int .i64 x.2))], [(0, .box (Row.row g_0)), (1, .box [.v (.int .i64 xv_0.Scope)])])) 2 ?_; rintro m_2 ⟨fresh_4, p_3⟩ h _ Q13; rw [qm1] at h; exact au
  .
   rintro fresh_2 h
   try dsimp only at h
   rw [q7g] at h; refine sg fun _ Q9 => ?_; simp only [go_sem]; rcases hb_7 : fresh_2 with _ | _
   . replace h := q4e h hb_7; simp only [go_sem, hb_7]; exact au
   . replace h := q4d h hb_7; obtain ⟨F, h⟩ := bG F h; obtain ⟨v_0, ev_0, h⟩ := z8 h; simp only [go_sem, hb_7, F]; refine qs7 (q9r (Xb (nv_0.toNat) g_0.Nodes) (fun x0_ => q86 x0_ xv_0.Scope) 123 [.el 1 [[.v (.int .i64 xv_0.Scope)]] 0 0] (by rfl) (by kernel_rfl) (fun y0 r_ e_ => z3u y0 xv_0.Scope r_ e_) v_0 ev_0) ?_; simp only [go_sem]; exact au)
def q79 (p_0 : List GIns) (rec_1 : Int -> Option Bool) : Int -> Option Bool :=
 fun t10_1 =>
 (if (decide (t10_1 < (p_0.length : Int))) = true then q9 (idx p_0 t10_1) (fun xv_2 =>
 (if ((decide (xv_2.Op < 1)) || (decide (16 < xv_2.Op))) = true then some false
 else q9 (qj6 xv_2.Op) (fun v_2 =>
 (if v_2 = true then (if ((decide (xv_2.N < 0)) || (decide ((p_0.length : Int) < xv_2.N))) = true then some false
 else rec_1 (i64.wrap (t10_1 + 1)))
 else (if ((!(xv_2.Op == 1)) && (!(xv_2.N == 0))) = true then some false
 else rec_1 (i64.wrap (t10_1 + 1)))))))
 else some true)
def q71 (p_0 : List GIns) : Option Bool :=
 (if (decide (64 < (p_0.length : Int))) = true then some false
 else q04 (q79 p_0) rounds 0)
instance j6j (p_0 : List GIns) : Ct pp 92 (q71 p_0) [.sl 2 (enc p_0)] fun r => (.v (.bool r)) := ctK Tryz.func92 rfl (by rw [q71]) (by
 intro r h F; refine sM ?_; refine sg fun _ Q2 => ?_; refine sM ?_; refine sB h (fun _ h => ?_) fun _ h => ?_
 . exact au
 . refine y9 (q8 Q2 (jg fun _ Q5 => ?_)); refine sM ?_; refine w9 fun _ Q7 => ?_; refine q12 h [0, 8, 9] (fun t10_1 => ([(10, .v (.int .i64 t10_1))], [])) 0 ?_; rintro m_1 t10_1 h _ Q8; rw [q79] at h; exact au)
def qf1 (s_0 : List GEdge) (f_0 : GEdge -> Option Bool) (rec_1 : Int -> Option Int) : Int -> Option Int :=
 fun t8_1 =>
 (if (decide (t8_1 < (s_0.length : Int))) = true then q9 (idx s_0 t8_1) (fun xv_2 =>
 q9 (f_0 xv_2) (fun v_2 =>
 (if v_2 = true then some t8_1
 else rec_1 (i64.wrap (t8_1 + 1)))))
 else some (-1))
def q8m (s_0 : List GEdge) (f_0 : GEdge -> Option Bool) : Option Int :=
 q04 (qf1 s_0 f_0) rounds 0
theorem qx4 (s_0 : List GEdge) (f_0 : GEdge -> Option Bool) (g_f_0 : FuncId) (c_f_0 : List AV) (F_f_0 : q08 c_f_0 = true) (E_f_0 : d9 pp g_f_0 = true) (H_f_0 : ∀ (x0 : GEdge) (r : Bool), f_0 x0 = some r -> PureS pp g_f_0 ([.agg (Row.row x0)] ++ c_f_0) 0 (.v (.bool r))) (r : Int) (h : q8m s_0 f_0 = some r) : PureS pp 146 [.sl 4 (enc s_0), .clo g_f_0 c_f_0] 0 (.v (.int .i64 r)) := by
 refine ptI Tryz.func146 rfl ?_; rw [q8m] at h; have F := trivial; refine sM ?_; refine jg fun _ Q2 => ?_; refine sM ?_; refine w9 fun _ Q4 => ?_; refine q12 h [0, 1, 7] (fun t8_1 => ([(8, .v (.int .i64 t8_1))], [])) 0 ?_; rintro m_1 t8_1 h _ Q5; rw [qf1] at h; refine sM ?_; refine sg fun _ Q7 => ?_; refine sB h (fun _ h => ?_) fun _ h => ?_
 .
  refine y9 (q8 Q7 (sg fun _ Q8 => ?_)); refine w9 fun _ Q9 => ?_; refine sM ?_; refine sg fun _ Q11 => ?_; obtain ⟨xv_2, F, h⟩ := bI F h; obtain ⟨v_2, ev_2, h⟩ := z8 h; simp only [go_sem, E_f_0, F]; refine ai ?_; refine q6c (H_f_0 xv_2 v_2 ev_2) (by rfl) (by simp [go_sem, q08, q0g, F_f_0]) ?_; simp only [go_sem]; refine q8 Q11 (sB h (fun _ h => ?_) fun _ h => ?_)
  . refine sM ?_; refine q0a (q4o Q9 (q3l Q8 (q7o Q5 (q4o Q4 (q3l Q2 ?_))))); simp only [go_sem]; obtain rfl := Xd h; refine q2x rfl ?_; exact leA
  . refine y9 (q05 Q9 (q8 Q8 ?_)); simp only [go_sem]; refine p8 Q5 ?_; exact nxC _ h [] leA
 . refine q0w (q29 Q7 (q0x Q5 (q0p Q4 (q8 Q2 (sM ?_))))); refine q0a ?_; simp only [go_sem]; obtain rfl := Xd h; refine q2x rfl ?_; exact leA
def q5e (s_0 : List GEdge) (f_0 : GEdge -> Option Bool) : Option Bool :=
 q9 (q8m s_0 f_0) (fun v_0 =>
 some (decide (0 <= v_0)))
theorem qt2 (s_0 : List GEdge) (f_0 : GEdge -> Option Bool) (g_f_0 : FuncId) (c_f_0 : List AV) (F_f_0 : q08 c_f_0 = true) (E_f_0 : d9 pp g_f_0 = true) (H_f_0 : ∀ (x0 : GEdge) (r : Bool), f_0 x0 = some r -> PureS pp g_f_0 ([.agg (Row.row x0)] ++ c_f_0) 0 (.v (.bool r))) (r : Bool) (h : q5e s_0 f_0 = some r) : PureS pp 125 [.sl 4 (enc s_0), .clo g_f_0 c_f_0] 0 (.v (.bool r)) := by
 refine ptI Tryz.func125 rfl ?_; rw [q5e] at h; have F := trivial; refine sM ?_; refine sg fun _ Q2 => ?_; obtain ⟨v_0, ev_0, h⟩ := z8 h; simp only [go_sem]; refine q6c (qx4 s_0 f_0 g_f_0 c_f_0 F_f_0 E_f_0 H_f_0 v_0 ev_0) (by rfl) (by simp [go_sem, q08, q0g, F_f_0]) ?_; simp only [go_sem]; refine q8 Q2 (q0a ?_); simp only [go_sem]; obtain rfl := Xd h; refine q2x rfl ?_; exact leA
def qe4 (e_0 : GEdge) (cap_0 : Int) (cap_1 : Int) : Option Bool :=
 some ((e_0.To == cap_0) && (e_0.Port == cap_1))
instance z7d (e_0 : GEdge) (cap_0 : Int) (cap_1 : Int) : Ct pp 126 (qe4 e_0 cap_0 cap_1) [.agg (Row.row e_0), .el 1 [[.v (.int .i64 cap_0)]] 0 0, .el 1 [[.v (.int .i64 cap_1)]] 0 0] fun r => (.v (.bool r)) := ctI Tryz.func126 rfl (by rw [qe4]; exact au1)
def qk5 (kind_0 : Int) : Option (Bool × Bool) :=
 some ((((kind_0 == 10) || (kind_0 == 11)) || (kind_0 == 12)), ((kind_0 == 1) || (kind_0 == 15)))
instance j3k (kind_0 : Int) : Ct pp 90 (qk5 kind_0) [.v (.int .i64 kind_0)] fun r => (.tup [.v (.bool r.1), .v (.bool r.2)]) := ctI Tryz.func90 rfl (by rw [qk5]; exact au1)
def qj0 (g_0 : GGraph) (nv_0 : Int) : Option Int :=
 q9 (idx g_0.Nodes nv_0) (fun xv_0 =>
 q9 (qk5 xv_0.Kind) (fun v_0 =>
 (if ((decide (xv_0.Kind < 1)) || (decide (15 < xv_0.Kind))) = true then some 1
 else q9 (q2j xv_0.Scope (g_0.Parent.length : Int)) (fun v_1 =>
 (if (((!v_1) || (v_0.1 && (xv_0.Scope == 0))) || (v_0.2 && (!(xv_0.Scope == 0)))) = true then some 6
 else q9 (q9z g_0 nv_0) (fun v_2 =>
 (if (!v_2) = true then some 6
 else (if (((xv_0.Kind == 4) && (decide (xv_0.Arg < 1))) || (((!(xv_0.Kind == 4)) && (!(xv_0.Kind == 3))) && (!(xv_0.Arg == 0)))) = true then some 1
 else q9 (q71 xv_0.Prog) (fun v_3 =>
 (if ((!v_3) || ((!(xv_0.Kind == 2)) && (decide (0 < (xv_0.Prog.length : Int))))) = true then some 13
 else some 0))))))))))
instance j6d (g_0 : GGraph) (nv_0 : Int) : Ct pp 53 (qj0 g_0 nv_0) [.agg (Row.row g_0), .v (.int .i64 nv_0)] fun r => (.v (.int .i64 r)) := ctI Tryz.func53 rfl (by rw [qj0]; exact au1)
def q8r (kind_0 : Int) : Option Int :=
 (if ((kind_0 == 5) || (kind_0 == 9)) = true then some 2
 else (if ((decide (1 < kind_0)) && (decide (kind_0 <= 15))) = true then some 1
 else some 0))
instance j5f (kind_0 : Int) : Ct pp 93 (q8r kind_0) [.v (.int .i64 kind_0)] fun r => (.v (.int .i64 r)) := ctI Tryz.func93 rfl (by rw [q8r]; exact au1)
def qe3 (g_0 : GGraph) (xv_0 : GNode) : Option Int :=
 (if (xv_0.Kind == 11) = true then q9 (idx g_0.Parent xv_0.Scope) (fun xv_1 =>
 some xv_1)
 else some xv_0.Scope)
instance j5d (g_0 : GGraph) (xv_0 : GNode) : Ct pp 94 (qe3 g_0 xv_0) [.agg (Row.row g_0), .agg (Row.row xv_0)] fun r => (.v (.int .i64 r)) := ctI Tryz.func94 rfl (by rw [qe3]; exact au1)
def qe0 (g_0 : GGraph) (xv_0 : GNode) : Option Int :=
 (if (xv_0.Kind == 10) = true then q9 (idx g_0.Parent xv_0.Scope) (fun xv_1 =>
 some xv_1)
 else some xv_0.Scope)
instance j5a (g_0 : GGraph) (xv_0 : GNode) : Ct pp 95 (qe0 g_0 xv_0) [.agg (Row.row g_0), .agg (Row.row xv_0)] fun r => (.v (.int .i64 r)) := ctI Tryz.func95 rfl (by rw [qe0]; exact au1)
def qe2 (kind_0 : Int) : Option Bool :=
 some (((decide (6 <= kind_0)) && (decide (kind_0 <= 9))) || (kind_0 == 14))
instance j5c (kind_0 : Int) : Ct pp 96 (qe2 kind_0) [.v (.int .i64 kind_0)] fun r => (.v (.bool r)) := ctI Tryz.func96 rfl (by rw [qe2]; exact au1)
def qg1 (l_0 : List GEdge) (node_0 : Int) (port_0 : Int) : Option Bool :=
 q9 (q5e l_0 (fun x0_ => qe4 x0_ node_0 port_0)) (fun v_0 =>
 some v_0)
instance j82 (l_0 : List GEdge) (node_0 : Int) (port_0 : Int) : Ct pp 97 (qg1 l_0 node_0 port_0) [.sl 4 (enc l_0), .v (.int .i64 node_0), .v (.int .i64 port_0)] fun r => (.v (.bool r)) := ctK Tryz.func97 rfl (by rw [qg1]) (by
 intro r h F; refine sM ?_; refine sg fun _ Q2 => ?_; obtain ⟨v_0, ev_0, h⟩ := z8 h; simp only [go_sem]; refine qs7 (qt2 l_0 (fun x0_ => qe4 x0_ node_0 port_0) 126 [.el 1 [[.v (.int .i64 node_0)]] 0 0, .el 1 [[.v (.int .i64 port_0)]] 0 0] (by rfl) (by kernel_rfl) (fun y0 r_ e_ => z7d y0 node_0 port_0 r_ e_) v_0 ev_0) ?_; simp only [go_sem]; exact au)
def qj2 (g_0 : GGraph) (nv_0 : Int) : Option Int :=
 q9 (idx g_0.Edges nv_0) (fun xv_0 =>
 q9 (q2j xv_0.From (g_0.Nodes.length : Int)) (fun v_0 =>
 (if v_0 = true then q9 (q2j xv_0.To (g_0.Nodes.length : Int)) (fun v_1 =>
 (if (!v_1) = true then some 7
 else q9 (idx g_0.Nodes xv_0.From) (fun xv_1 =>
 q9 (idx g_0.Nodes xv_0.To) (fun xv_2 =>
 (if (xv_1.Kind == 15) = true then some 7
 else q9 (q8r xv_2.Kind) (fun v_2 =>
 q9 (q2j xv_0.Port v_2) (fun v_3 =>
 (if (!v_3) = true then some 7
 else q9 (qe3 g_0 xv_1) (fun v_4 =>
 q9 (qe0 g_0 xv_2) (fun v_5 =>
 (if (!(v_4 == v_5)) = true then some 6
 else (if ((decide (xv_0.To <= xv_0.From)) && (!(xv_1.Kind == 12))) = true then some 8
 else q9 (qe2 xv_2.Kind) (fun v_6 =>
 (if (v_6 && (!xv_0.Exchange)) = true then some 1
 else q02 (0 <= 0 /\ 0 <= nv_0 /\ nv_0 <= (g_0.Edges.length : Int)) (
 q9 (qg1 (Xb (nv_0.toNat) g_0.Edges) xv_0.To xv_0.Port) (fun v_7 =>
 (if v_7 = true then some 7
 else some 0)))))))))))))))))
 else some 7)))
instance j6f (g_0 : GGraph) (nv_0 : Int) : Ct pp 54 (qj2 g_0 nv_0) [.agg (Row.row g_0), .v (.int .i64 nv_0)] fun r => (.v (.int .i64 r)) := ctK Tryz.func54 rfl (by rw [qj2]) (by
 intro r h F; refine sM ?_; refine sg fun _ Q2 => ?_; obtain ⟨xv_0, F, h⟩ := bI F h; simp only [go_sem, F]; refine ai ?_; refine q8 Q2 (sg fun _ Q3 => ?_); refine sg fun _ Q4 => ?_; simp only [go_sem]; refine q53 h fun v_0 h => ?_; simp only [go_sem]; rcases hb_0 : v_0 with _ | _
 . replace h := q4e h hb_0; simp only [go_sem, hb_0]; exact au
 .
  replace h := q4d h hb_0; simp only [go_sem, hb_0]; refine q53 h fun v_1 h => ?_; simp only [go_sem]; refine q8 Q4 (sB h (fun _ h => ?_) fun _ h => ?_)
  . exact au
  . refine y9 (q8 Q3 (sg fun _ Q7 => ?_)); refine q0e ?_; refine q3i 15 0 14 [0, 1, 0, 4, 15, 31, 0, 64, 0, 256, 960, 1984, 0, 0, 12351, 32767] [2, 3] [0, 1, 2, 3, 4, 5, 6, 7, 8, 9, 10, 11] [] [14] [12, 13] mixed (by kernel_rfl) (of_decide_eq_true (by kernel_rfl)) (by kernel_rfl) (by kernel_rfl) (by rfl) ?_; obtain ⟨xv_1, F, h⟩ := bI F h; obtain ⟨xv_2, F, h⟩ := bI F h; simp only [go_sem, F]; refine ai ?_; refine ai ?_; exact au)
def qg7 (g_0 : GGraph) (nv_0 : Int) (v_0 : Int) (rec_1 : Int -> Option Bool) : Int -> Option Bool :=
 fun t13_1 =>
 (if (decide (t13_1 < v_0)) = true then q9 (qg1 g_0.Edges nv_0 t13_1) (fun v_3 =>
 (if (!v_3) = true then some false
 else rec_1 (i64.wrap (t13_1 + 1))))
 else some true)
def qj1 (g_0 : GGraph) (nv_0 : Int) : Option Bool :=
 q9 (idx g_0.Nodes nv_0) (fun xv_0 =>
 q9 (q8r xv_0.Kind) (fun v_0 =>
 q04 (qg7 g_0 nv_0 v_0) rounds 0))
instance j6e (g_0 : GGraph) (nv_0 : Int) : Ct pp 55 (qj1 g_0 nv_0) [.agg (Row.row g_0), .v (.int .i64 nv_0)] fun r => (.v (.bool r)) := ctK Tryz.func55 rfl (by rw [qj1]) (by
 intro r h F; refine sM ?_; refine jg fun _ Q2 => ?_; refine sg fun _ Q3 => ?_; obtain ⟨xv_0, F, h⟩ := bI F h; simp only [go_sem, F]; refine ai ?_; refine q53 h fun v_0 h => ?_; simp only [go_sem]; refine q8 Q3 (w9 fun _ Q4 => ?_); refine q12 h [1, 2, 12] (fun t13_1 => ([(13, .v (.int .i64 t13_1))], [(0, .box (Row.row g_0))])) 1 ?_; rintro m_1 t13_1 h _ Q5; rw [qg7] at h; exact au)
def qo4 (g_0 : GGraph) (s_0 : Int) (rec_1 : Int -> Option Bool) : Int -> Option Bool :=
 fun p_1 =>
 (if (decide (0 <= p_1)) = true then (if (p_1 == s_0) = true then some true
 else q9 (idx g_0.Parent p_1) (fun xv_3 =>
 rec_1 xv_3))
 else some false)
def qd9 (g_0 : GGraph) (s_0 : Int) (of_0 : Int) : Option Bool :=
 q9 (idx g_0.Parent of_0) (fun xv_0 =>
 q04 (qo4 g_0 s_0) rounds xv_0)
instance j59 (g_0 : GGraph) (s_0 : Int) (of_0 : Int) : Ct pp 99 (qd9 g_0 s_0 of_0) [.agg (Row.row g_0), .v (.int .i64 s_0), .v (.int .i64 of_0)] fun r => (.v (.bool r)) := ctK Tryz.func99 rfl (by rw [qd9]) (by
 intro r h F; refine sM ?_; refine jg fun _ Q2 => ?_; refine sg fun _ Q3 => ?_; obtain ⟨xv_0, F, h⟩ := bI F h; simp only [go_sem, F]; refine ai ?_; refine q8 Q3 (w9 fun _ Q4 => ?_); refine q12 h [1, 3] (fun p_1 => ([(7, .v (.int .i64 p_1))], [(0, .box (Row.row g_0))])) 1 ?_; rintro m_1 p_1 h _ Q5; rw [qo4] at h; exact au)
def q3n (fromv_0 : Int) (cap_0 : GGraph) (self : Int -> GGraph -> (List Bool) -> Int -> Option (GGraph × (List Bool) × Int)) (rec_1 : Int × GGraph × Int × (List Bool) -> Option (GGraph × (List Bool) × Int)) : Int × GGraph × Int × (List Bool) -> Option (GGraph × (List Bool) × Int) :=
 fun (t12_1, b_2, b_3, a_1) =>
 (if (decide (t12_1 < (cap_0.Edges.length : Int))) = true then q9 (idx cap_0.Edges t12_1) (fun xv_6 =>
 (if (xv_6.From == fromv_0) = true then q9 (idx a_1 xv_6.To) (fun xv_7 =>
 (if xv_7 = true then rec_1 (i64.wrap (t12_1 + 1), b_2, b_3, a_1)
 else q9 (idx b_2.Nodes xv_6.To) (fun xv_8 =>
 (if (xv_8.Kind == 12) = true then q9 (qd9 b_2 xv_8.Scope b_3) (fun v_7 =>
 (if (!v_7) = true then q9 (self xv_6.To b_2 (Xy a_1 (xv_6.To.toNat) true) b_3) (fun v_8 =>
 rec_1 (i64.wrap (t12_1 + 1), v_8.1, v_8.2.2, v_8.2.1))
 else rec_1 (i64.wrap (t12_1 + 1), b_2, b_3, (Xy a_1 (xv_6.To.toNat) true))))
 else q9 (self xv_6.To b_2 (Xy a_1 (xv_6.To.toNat) true) b_3) (fun v_6 =>
 rec_1 (i64.wrap (t12_1 + 1), v_6.1, v_6.2.2, v_6.2.1))))))
 else rec_1 (i64.wrap (t12_1 + 1), b_2, b_3, a_1)))
 else some (b_2, a_1, b_3))
def q2g (self : Int -> GGraph -> (List Bool) -> Int -> Option (GGraph × (List Bool) × Int)) (fromv_0 : Int) (cap_0 : GGraph) (cap_1 : List Bool) (cap_2 : Int) : Option (GGraph × (List Bool) × Int) :=
 q04 (q3n fromv_0 cap_0 self) rounds (0, cap_0, cap_2, cap_1)
def q10 : Nat -> Int -> GGraph -> (List Bool) -> Int -> Option (GGraph × (List Bool) × Int)
 | 0 => fun _ _ _ _ => none
 | n + 1 => q2g (q10 n)
def q9p (fromv_0 : Int) (cap_0 : GGraph) (cap_1 : List Bool) (cap_2 : Int) : Option (GGraph × (List Bool) × Int) := q10 rounds fromv_0 cap_0 cap_1 cap_2
theorem qk6 (self : Int -> GGraph -> (List Bool) -> Int -> Option (GGraph × (List Bool) × Int)) (Hself : ∀ (fromv_0 : Int) (cap_0 : GGraph) (cap_1 : List Bool) (cap_2 : Int)  (r : GGraph × (List Bool) × Int), self fromv_0 cap_0 cap_1 cap_2 = some r -> DetS pp 98 [.v (.int .i64 fromv_0), .ptr 0 0, .ptr 1 0, .ptr 3 0, .ptr 4 0] [(0, .box (Row.row cap_0)), (1, .box [.osl 2 1 (0) (cap_1.length)]), (2, .arr 1 (enc cap_1)), (3, .box [.v (.int .i64 cap_2)]), (4, .box [.clo 98 [.ptr 0 0, .ptr 1 0, .ptr 3 0, .ptr 4 0]])] 5 (.tup []) [(0, .box (Row.row r.1)), (1, .box [.osl 5 1 (0) (r.2.1.length)]), (3, .box [.v (.int .i64 r.2.2)]), (4, .box [.clo 98 [.ptr 0 0, .ptr 1 0, .ptr 3 0, .ptr 4 0]]), (5, .arr 1 (enc r.2.1))] 6) (fromv_0 : Int) (cap_0 : GGraph) (cap_1 : List Bool) (cap_2 : Int)  (r : GGraph × (List Bool) × Int) (h : q2g self fromv_0 cap_0 cap_1 cap_2 = some r) : DetS pp 98 [.v (.int .i64 fromv_0), .ptr 0 0, .ptr 1 0, .ptr 3 0, .ptr 4 0] [(0, .box (Row.row cap_0)), (1, .box [.osl 2 1 (0) (cap_1.length)]), (2, .arr 1 (enc cap_1)), (3, .box [.v (.int .i64 cap_2)]), (4, .box [.clo 98 [.ptr 0 0, .ptr 1 0, .ptr 3 0, .ptr 4 0]])] 5 (.tup []) [(0, .box (Row.row r.1)), (1, .box [.osl 5 1 (0) (r.2.1.length)]), (3, .box [.v (.int .i64 r.2.2)]), (4, .box [.clo 98 [.ptr 0 0, .ptr 1 0, .ptr 3 0, .ptr 4 0]]), (5, .arr 1 (enc r.2.1))] 6 := by
 refine dtI Tryz.func98 rfl ?_; rw [q2g] at h; have F := trivial; refine sM ?_; refine w9 fun _ Q2 => ?_; refine q12 h [0, 1, 2, 3, 4, 10, 11] (fun x => ([(12, .v (.int .i64 x.1))], [(0, .box (Row.row x.2.1)), (1, .box [.osl 5 1 (0) (x.2.2.2.length)]), (3, .box [.v (.int .i64 x.2.2.1)]), (4, .box [.clo 98 [.ptr 0 0, .ptr 1 0, .ptr 3 0, .ptr 4 0]]), (5, .arr 1 (enc x.2.2.2))])) 6 ?_; rintro m_1 ⟨t12_1, b_2, b_3, a_1⟩ h _ Q3; rw [q3n] at h; refine sM ?_; refine sg fun _ Q5 => ?_; refine sB h (fun _ h => ?_) fun _ h => ?_
 .
  refine y9 (q8 Q5 (jg fun _ Q6 => ?_)); refine w9 fun _ Q7 => ?_; refine sg fun _ Q8 => ?_; obtain ⟨xv_6, F, h⟩ := bI F h; simp only [go_sem, F]; refine ai ?_; refine q8 Q8 (sg fun _ Q9 => ?_); refine sg fun _ Q10 => ?_; simp only [go_sem]; rcases hb_11 : (xv_6.From == fromv_0) with _ | _
  . replace h := q4e h hb_11; simp only [go_sem, hb_11]; exact au
  .
   replace h := q4d h hb_11; obtain ⟨xv_7, F, h⟩ := bI F h; simp only [go_sem, hb_11, F]; refine ai ?_; refine q8 Q10 (sB h (fun _ h => ?_) fun _ h => ?_)
   . exact au
   .
    refine y9 (q8 Q9 (sg fun _ Q11 => ?_)); have rf_2 : (enc a_1).set (xv_6.To.toNat) [.v (.bool true)] = enc (Xy a_1 (xv_6.To.toNat) true) := by exact qa2 _ _ _
    simp only [go_sem, rf_2, F]; refine ai ?_; refine q8 Q11 (sg fun _ Q12 => ?_); obtain ⟨xv_8, F, h⟩ := bI F h; simp only [go_sem, F]; refine ai ?_; refine q8 Q12 (sg fun _ Q13 => ?_); simp only [go_sem]; rcases hb_13 : (xv_8.Kind == 12) with _ | _
    . replace h := q4e h hb_13; simp only [go_sem, hb_13]; refine q8 Q13 (jj8 ?_); obtain ⟨v_6, ev_6, h⟩ := z8 h; simp only [go_sem]; refine qa9 [0, 1, 2, 3, 4, 10, 11, 12, 21, 22, 23, 25] ([], [(0, .box (Row.row b_2)), (1, .box [.osl 5 1 (0) (Xf (Xy a_1 (xv_6.To.toNat) true))]), (3, .box [.v (.int .i64 b_3)]), (4, .box [.clo 98 [.ptr 0 0, .ptr 1 0, .ptr 3 0, .ptr 4 0]]), (5, .arr 1 (enc (Xy a_1 (xv_6.To.toNat) true))), (6, .box (Row.row xv_6)), (7, .box (Row.row xv_8))]) 8 [some 5, some 6, some 7] [.v (.int .i64 xv_6.To), .ptr 0 0, .ptr 1 0, .ptr 3 0, .ptr 4 0] ?_; refine q1r [0, 1, 5, 3, 4] (Hself xv_6.To b_2 (Xy a_1 (xv_6.To.toNat) true) b_3 v_6 ev_6) ?_; simp only [go_sem]; exact au
    .
     replace h := q4d h hb_13; simp only [go_sem, hb_13]; refine q53 h fun v_7 h => ?_; simp only [go_sem]; refine q8 Q13 (sB h (fun _ h => ?_) fun _ h => ?_)
     . obtain ⟨v_8, ev_8, h⟩ := z8 h; simp only [go_sem]; refine qa9 [0, 1, 2, 3, 4, 10, 11, 12, 21, 22, 23, 25, 41, 42, 43, 44, 45, 46] ([], [(0, .box (Row.row b_2)), (1, .box [.osl 5 1 (0) (Xf (Xy a_1 (xv_6.To.toNat) true))]), (3, .box [.v (.int .i64 b_3)]), (4, .box [.clo 98 [.ptr 0 0, .ptr 1 0, .ptr 3 0, .ptr 4 0]]), (5, .arr 1 (enc (Xy a_1 (xv_6.To.toNat) true))), (6, .box (Row.row xv_6)), (7, .box (Row.row xv_8))]) 8 [some 5, some 6, some 7] [.v (.int .i64 xv_6.To), .ptr 0 0, .ptr 1 0, .ptr 3 0, .ptr 4 0] ?_; refine q1r [0, 1, 5, 3, 4] (Hself xv_6.To b_2 (Xy a_1 (xv_6.To.toNat) true) b_3 v_8 ev_8) ?_; simp only [go_sem]; exact au
     . exact au
 . exact au
theorem q78 : ∀ (n : Nat) (fromv_0 : Int) (cap_0 : GGraph) (cap_1 : List Bool) (cap_2 : Int)  (r : GGraph × (List Bool) × Int), q10 n fromv_0 cap_0 cap_1 cap_2 = some r -> DetS pp 98 [.v (.int .i64 fromv_0), .ptr 0 0, .ptr 1 0, .ptr 3 0, .ptr 4 0] [(0, .box (Row.row cap_0)), (1, .box [.osl 2 1 (0) (cap_1.length)]), (2, .arr 1 (enc cap_1)), (3, .box [.v (.int .i64 cap_2)]), (4, .box [.clo 98 [.ptr 0 0, .ptr 1 0, .ptr 3 0, .ptr 4 0]])] 5 (.tup []) [(0, .box (Row.row r.1)), (1, .box [.osl 5 1 (0) (r.2.1.length)]), (3, .box [.v (.int .i64 r.2.2)]), (4, .box [.clo 98 [.ptr 0 0, .ptr 1 0, .ptr 3 0, .ptr 4 0]]), (5, .arr 1 (enc r.2.1))] 6
  | 0, fromv_0, cap_0, cap_1, cap_2, r, h => by simp [q10] at h
  | n + 1, fromv_0, cap_0, cap_1, cap_2, r, h => qk6 (q10 n) (q78 n) fromv_0 cap_0 cap_1 cap_2  r h
theorem qm6 (fromv_0 : Int) (cap_0 : GGraph) (cap_1 : List Bool) (cap_2 : Int)  (r : GGraph × (List Bool) × Int) (h : q9p fromv_0 cap_0 cap_1 cap_2 = some r) : DetS pp 98 [.v (.int .i64 fromv_0), .ptr 0 0, .ptr 1 0, .ptr 3 0, .ptr 4 0] [(0, .box (Row.row cap_0)), (1, .box [.osl 2 1 (0) (cap_1.length)]), (2, .arr 1 (enc cap_1)), (3, .box [.v (.int .i64 cap_2)]), (4, .box [.clo 98 [.ptr 0 0, .ptr 1 0, .ptr 3 0, .ptr 4 0]])] 5 (.tup []) [(0, .box (Row.row r.1)), (1, .box [.osl 5 1 (0) (r.2.1.length)]), (3, .box [.v (.int .i64 r.2.2)]), (4, .box [.clo 98 [.ptr 0 0, .ptr 1 0, .ptr 3 0, .ptr 4 0]]), (5, .arr 1 (enc r.2.1))] 6 := q78 rounds fromv_0 cap_0 cap_1 cap_2  r h
def qb8 (g_0 : GGraph) (nv_0 : Int) (rec_1 : Int × Int × (List Bool) × GGraph -> Option Bool) : Int × Int × (List Bool) × GGraph -> Option Bool :=
 fun (t31_1, b_2, a_1, b_3) =>
 (if (decide (t31_1 < (g_0.Nodes.length : Int))) = true then q9 (idx g_0.Nodes t31_1) (fun xv_5 =>
 (if ((xv_5.Kind == 11) && (xv_5.Scope == b_2)) = true then q9 (q9p t31_1 b_3 a_1 b_2) (fun v_2 =>
 rec_1 (i64.wrap (t31_1 + 1), v_2.2.2, v_2.2.1, v_2.1))
 else rec_1 (i64.wrap (t31_1 + 1), b_2, a_1, b_3)))
 else q9 (idx a_1 nv_0) (fun xv_6 =>
 some xv_6))
def qe5 (g_0 : GGraph) (nv_0 : Int) : Option Bool :=
 q9 (idx g_0.Nodes nv_0) (fun xv_0 =>
 (if (!(xv_0.Kind == 10)) = true then some false
 else q02 (0 <= (g_0.Nodes.length : Int) /\ (g_0.Nodes.length : Int) * 1 <= 140737488355328) (
 q04 (qb8 g_0 nv_0) rounds (0, xv_0.Scope, (Xk (g_0.Nodes.length) false), g_0))))
instance j5e (g_0 : GGraph) (nv_0 : Int) : Ct pp 56 (qe5 g_0 nv_0) [.agg (Row.row g_0), .v (.int .i64 nv_0)] fun r => (.v (.bool r)) := ctK Tryz.func56 rfl (by rw [qe5]) (by
 intro r h F; refine sM ?_; refine sg fun _ Q2 => ?_; obtain ⟨xv_0, F, h⟩ := bI F h; simp only [go_sem, F]; refine ai ?_; refine q8 Q2 (sg fun _ Q3 => ?_); refine sg fun _ Q4 => ?_; simp only [go_sem, F]; refine ai ?_; refine q8 Q4 (sB h (fun _ h => ?_) fun _ h => ?_)
 . exact au
 .
  refine y9 (q8 Q3 (sg fun _ Q6 => ?_)); obtain ⟨F, h⟩ := bG F h; have rf_0 : Xk (g_0.Nodes.length) [.v (.bool false)] = enc (Xk (g_0.Nodes.length) false) := by (simp [enc, z5i, z2o, z09, q6n]; done)
  simp only [go_sem, F]; simp only [rf_0]; refine q8 Q6 (sM ?_); refine sM ?_; refine jg fun _ Q9 => ?_; refine sM ?_; refine w9 fun _ Q11 => ?_; refine q12 h [1, 29, 30] (fun x => ([(5, .ptr 0 0), (6, .ptr 1 0), (7, .ptr 2 0), (31, .v (.int .i64 x.1))], [(0, .box [.v (.int .i64 x.2.1)]), (1, .box [.osl 3 1 (0) (x.2.2.1.length)]), (2, .box [.clo 98 [.ptr 4 0, .ptr 1 0, .ptr 0 0, .ptr 2 0]]), (3, .arr 1 (enc x.2.2.1)), (4, .box (Row.row x.2.2.2))])) 5 ?_; rintro m_1 ⟨t31_1, b_2, a_1, b_3⟩ h _ Q12; rw [qb8] at h; refine sM ?_; refine sg fun _ Q14 => ?_; refine sB h (fun _ h => ?_) fun _ h => ?_
  .
   refine y9 (q8 Q14 (jg fun _ Q15 => ?_)); refine w9 fun _ Q16 => ?_; refine sg fun _ Q17 => ?_; obtain ⟨xv_5, F, h⟩ := bI F h; simp only [go_sem, F]; refine ai ?_; refine q8 Q17 (sM ?_); refine sB h (fun _ h => ?_) fun _ h => ?_
   . obtain ⟨v_2, ev_2, h⟩ := z8 h; simp only [go_sem]; refine q1r [4, 1, 3, 0, 2] (qm6 t31_1 b_3 a_1 b_2 v_2 ev_2) ?_; simp only [go_sem]; exact au
   . exact au
  . exact au)
def qc9 (g_0 : GGraph) (rec_5 : Int -> Option (Int × Int)) : Int -> Option (Int × Int) :=
 fun t101_1 =>
 (if (decide (t101_1 < (g_0.Nodes.length : Int))) = true then q9 (qe5 g_0 t101_1) (fun v_14 =>
 (if v_14 = true then some (8, t101_1)
 else rec_5 (i64.wrap (t101_1 + 1))))
 else some (0, 0))
def q87 (g_0 : GGraph) : Option (Int × Int) :=
 q04 (qc9 g_0) rounds 0
def qc8 (g_0 : GGraph) (rec_6 : Int -> Option (Int × Int)) : Int -> Option (Int × Int) :=
 fun t89_3 =>
 (if (decide (t89_3 < (g_0.Nodes.length : Int))) = true then q9 (qj1 g_0 t89_3) (fun v_17 =>
 (if (!v_17) = true then some (7, t89_3)
 else rec_6 (i64.wrap (t89_3 + 1))))
 else q87 g_0)
def q88 (g_0 : GGraph) : Option (Int × Int) :=
 q04 (qc8 g_0) rounds 0
def qc7 (g_0 : GGraph) (rec_7 : Int -> Option (Int × Int)) : Int -> Option (Int × Int) :=
 fun t75_3 =>
 (if (decide (t75_3 < (g_0.Edges.length : Int))) = true then q9 (qj2 g_0 t75_3) (fun v_20 =>
 (if (!(v_20 == 0)) = true then some (v_20, t75_3)
 else rec_7 (i64.wrap (t75_3 + 1))))
 else q88 g_0)
def q89 (g_0 : GGraph) : Option (Int × Int) :=
 q04 (qc7 g_0) rounds 0
def qc0 (g_0 : GGraph) (rec_8 : Int -> Option (Int × Int)) : Int -> Option (Int × Int) :=
 fun t61_3 =>
 (if (decide (t61_3 < (g_0.Nodes.length : Int))) = true then q9 (qj0 g_0 t61_3) (fun v_23 =>
 (if (!(v_23 == 0)) = true then some (v_23, t61_3)
 else rec_8 (i64.wrap (t61_3 + 1))))
 else q89 g_0)
def q8a (g_0 : GGraph) : Option (Int × Int) :=
 (if (((decide ((g_0.Nodes.length : Int) < 1)) || (decide (32 < (g_0.Nodes.length : Int)))) || (decide (64 < (g_0.Edges.length : Int)))) = true then some (11, 0)
 else q04 (qc0 g_0) rounds 0)
def qb9 (g_0 : GGraph) (rec_9 : Int -> Option (Int × Int)) : Int -> Option (Int × Int) :=
 fun t33_3 =>
 (if (decide (t33_3 < (g_0.Parent.length : Int))) = true then q9 (qe1 g_0 t33_3) (fun v_26 =>
 (if (!v_26) = true then some (6, t33_3)
 else rec_9 (i64.wrap (t33_3 + 1))))
 else q8a g_0)
def qe6 (g_0 : GGraph) : Option (Int × Int) :=
 (if (((decide ((g_0.Parent.length : Int) < 1)) || (decide (8 < (g_0.Parent.length : Int)))) || (!((g_0.Bound.length : Int) == (g_0.Parent.length : Int)))) = true then some (6, 0)
 else q04 (qb9 g_0) rounds 0)
instance j5h (g_0 : GGraph) : Ct pp 34 (qe6 g_0) [.agg (Row.row g_0)] fun r => (.tup [.v (.int .i64 r.1), .v (.int .i64 r.2)]) := ctK Tryz.func34 rfl (by rw [qe6]) (by
 intro r h F; refine sM ?_; refine sg fun _ Q2 => ?_; refine sM ?_; refine sB h (fun _ h => ?_) fun _ h => ?_
 . exact au
 .
  refine y9 (q8 Q2 (q5r (fun (_ : Unit) => q8a g_0 = some r) [1] (fun _ => ([], [(0, .box (Row.row g_0))])) 1 ?_ ?_))
  . intro _ Q55; refine sM ?_; refine w9 fun _ Q57 => ?_; refine q12 h [1, 32] (fun t33_3 => ([(33, .v (.int .i64 t33_3))], [(0, .box (Row.row g_0))])) 1 ?_; rintro m_9 t33_3 h _ Q58; rw [qb9] at h; exact au
  .
   rintro ⟨⟩ h
   try dsimp only at h
   rw [q8a] at h; refine sg fun _ Q5 => ?_; refine sM ?_; refine sB h (fun _ h => ?_) fun _ h => ?_
   . exact au
   .
    refine y9 (q8 Q5 (q5r (fun (_ : Unit) => q89 g_0 = some r) [1] (fun _ => ([], [(0, .box (Row.row g_0))])) 1 ?_ ?_))
    . intro _ Q43; refine sM ?_; refine w9 fun _ Q45 => ?_; refine q12 h [1, 60] (fun t61_3 => ([(61, .v (.int .i64 t61_3))], [(0, .box (Row.row g_0))])) 1 ?_; rintro m_8 t61_3 h _ Q46; rw [qc0] at h; exact au
    .
     rintro ⟨⟩ h
     try dsimp only at h
     rw [q89] at h; refine q5r (fun (_ : Unit) => q88 g_0 = some r) [1] (fun _ => ([], [(0, .box (Row.row g_0))])) 1 ?_ ?_
     . intro _ Q31; refine sM ?_; refine w9 fun _ Q33 => ?_; refine q12 h [1, 74] (fun t75_3 => ([(75, .v (.int .i64 t75_3))], [(0, .box (Row.row g_0))])) 1 ?_; rintro m_7 t75_3 h _ Q34; rw [qc7] at h; exact au
     .
      rintro ⟨⟩ h
      try dsimp only at h
      rw [q88] at h; refine q5r (fun (_ : Unit) => q87 g_0 = some r) [1] (fun _ => ([], [(0, .box (Row.row g_0))])) 1 ?_ ?_
      . intro _ Q20; refine sM ?_; refine w9 fun _ Q22 => ?_; refine q12 h [1, 88] (fun t89_3 => ([(89, .v (.int .i64 t89_3))], [(0, .box (Row.row g_0))])) 1 ?_; rintro m_6 t89_3 h _ Q23; rw [qc8] at h; exact au
      .
       rintro ⟨⟩ h
       try dsimp only at h
       rw [q87] at h; refine jg fun _ Q8 => ?_; refine sM ?_; refine w9 fun _ Q10 => ?_; refine q12 h [1, 100] (fun t101_1 => ([(101, .v (.int .i64 t101_1))], [(0, .box (Row.row g_0))])) 1 ?_; rintro m_5 t101_1 h _ Q11; rw [qc9] at h; exact au)
def qj8 (nv_0 : Int) : Option Bool :=
 some ((decide ((-2147483648) <= nv_0)) && (decide (nv_0 <= 2147483648)))
instance j9z (nv_0 : Int) : Ct pp 127 (qj8 nv_0) [.v (.int .i64 nv_0)] fun r => (.v (.bool r)) := ctI Tryz.func127 rfl (by rw [qj8]; exact au1)
def q67 (xv_0 : Int) : Option Bool :=
 some (!(xv_0 == xv_0))
instance j0l (xv_0 : Int) : Ct pp 145 (q67 xv_0) [.v (.int .i64 xv_0)] fun r => (.v (.bool r)) := ctI Tryz.func145 rfl (by rw [q67]; exact au1)
def q2y (xv_0 : Int) (y_0 : Int) : Option Int :=
 q9 (q67 xv_0) (fun v_0 =>
 q9 (q67 y_0) (fun v_1 =>
 (if v_0 = true then (if v_1 = true then some 0
 else some (-1))
 else (if v_1 = true then some 1
 else (if (decide (xv_0 < y_0)) = true then some (-1)
 else (if (decide (y_0 < xv_0)) = true then some 1
 else some 0))))))
instance z1n (xv_0 : Int) (y_0 : Int) : Ct pp 122 (q2y xv_0 y_0) [.v (.int .i64 xv_0), .v (.int .i64 y_0)] fun r => (.v (.int .i64 r)) := ctI Tryz.func122 rfl (by rw [q2y]; exact au1)
def q7b (vals_0 : List Int) (rec_1 : Int -> Option Int) : Int -> Option Int :=
 fun t8_1 =>
 (if (decide (t8_1 < (vals_0.length : Int))) = true then q9 (idx vals_0 t8_1) (fun xv_2 =>
 (if (!(xv_2 == 0)) = true then some xv_2
 else rec_1 (i64.wrap (t8_1 + 1))))
 else some 0)
def q73 (vals_0 : List Int) : Option Int :=
 q04 (q7b vals_0) rounds 0
instance z10 (vals_0 : List Int) : Ct pp 49 (q73 vals_0) [.sl 1 (enc vals_0)] fun r => (.v (.int .i64 r)) := ctK Tryz.func49 rfl (by rw [q73]) (by
 intro r h F; refine sM ?_; refine sM ?_; refine jg fun _ Q3 => ?_; refine sM ?_; refine w9 fun _ Q5 => ?_; refine q12 h [3, 6, 7] (fun t8_1 => ([(8, .v (.int .i64 t8_1))], [])) 0 ?_; rintro m_1 t8_1 h _ Q6; rw [q7b] at h; exact au)
def q9l (a_0 : GRec) (b_0 : GRec) : Option Int :=
 q9 (q2y a_0.K b_0.K) (fun v_0 =>
 q9 (q2y a_0.V b_0.V) (fun v_1 =>
 q9 (q73 ([v_0, v_1] : List Int)) (fun v_2 =>
 some v_2)))
instance j84 (a_0 : GRec) (b_0 : GRec) : Ct pp 87 (q9l a_0 b_0) [.agg (Row.row a_0), .agg (Row.row b_0)] fun r => (.v (.int .i64 r)) := ctK Tryz.func87 rfl (by rw [q9l]) (by
 intro r h F; refine sM ?_; refine sg fun _ Q2 => ?_; refine q0e ?_; refine je2 ?_; obtain ⟨v_0, ev_0, h⟩ := z8 h; simp only [go_sem]; refine callq (fun _ => (z1n a_0.K b_0.K v_0 ev_0)) (by rfl) (by rfl) ?_; simp only [go_sem]; refine q53 h fun v_1 h => ?_; have rf_0 : [[.v (.int .i64 v_0)], [.v (.int .i64 v_1)]] = enc ([v_0, v_1] : List Int) := by rfl
 obtain ⟨v_2, ev_2, h⟩ := z8 h; simp only [go_sem]; simp only [rf_0]; refine qs7 (z10 ([v_0, v_1] : List Int) v_2 ev_2) ?_; simp only [go_sem]; exact au)
def q7m (a_0 : GRec) (b_0 : GRec) : Option Bool :=
 q9 (q9l a_0 b_0) (fun v_0 =>
 some (decide (v_0 < 0)))
instance j8x (a_0 : GRec) (b_0 : GRec) : Ct pp 50 (q7m a_0 b_0) [.agg (Row.row a_0), .agg (Row.row b_0)] fun r => (.v (.bool r)) := ctI Tryz.func50 rfl (by rw [q7m]; exact au1)
def ql4 (b_0 : List GItem) (rec_1 : Int -> Option Bool) : Int -> Option Bool :=
 fun t7_1 =>
 (if (decide (t7_1 < (b_0.length : Int))) = true then q9 (idx b_0 t7_1) (fun xv_4 =>
 (if (xv_4.N == 0) = true then some false
 else q9 (qj8 xv_4.N) (fun v_4 =>
 (if v_4 = true then (if (decide (0 < t7_1)) = true then q9 (idx b_0 (i64.wrap (t7_1 - 1))) (fun xv_5 =>
 q9 (q7m xv_5.Rec xv_4.Rec) (fun v_5 =>
 (if (!v_5) = true then some false
 else rec_1 (i64.wrap (t7_1 + 1)))))
 else rec_1 (i64.wrap (t7_1 + 1)))
 else some false))))
 else some true)
def q6v (b_0 : List GItem) : Option Bool :=
 q04 (ql4 b_0) rounds 0
instance j85 (b_0 : List GItem) : Ct pp 101 (q6v b_0) [.sl 3 (enc b_0)] fun r => (.v (.bool r)) := ctK Tryz.func101 rfl (by rw [q6v]) (by
 intro r h F; refine sM ?_; refine jg fun _ Q2 => ?_; refine sM ?_; refine w9 fun _ Q4 => ?_; refine q12 h [0, 5, 6] (fun t7_1 => ([(7, .v (.int .i64 t7_1))], [])) 0 ?_; rintro m_1 t7_1 h _ Q5; rw [ql4] at h; exact au)
def q3o (xv_0 : List GItem) (target_0 : GRec) (cmp_0 : GItem -> GRec -> Option Int) (i_2 : Int) : Option (Int × Bool) :=
 (if (decide (i_2 < (xv_0.length : Int))) = true then q9 (idx xv_0 i_2) (fun xv_4 =>
 q9 (cmp_0 xv_4 target_0) (fun v_3 =>
 some (i_2, (v_3 == 0))))
 else some (i_2, false))
def q5g (xv_0 : List GItem) (target_0 : GRec) (cmp_0 : GItem -> GRec -> Option Int) (rec_2 : Int × Int -> Option (Int × Bool)) : Int × Int -> Option (Int × Bool) :=
 fun (i_4, j_3) =>
 (if (decide (i_4 < j_3)) = true then q9 (idx xv_0 (i64.wrap (q28 .u64 (IntKind.u64.wrap (i64.wrap (i_4 + j_3))) 1))) (fun xv_7 =>
 q9 (cmp_0 xv_7 target_0) (fun v_6 =>
 (if (decide (v_6 < 0)) = true then rec_2 (i64.wrap ((i64.wrap (q28 .u64 (IntKind.u64.wrap (i64.wrap (i_4 + j_3))) 1)) + 1), j_3)
 else rec_2 (i_4, i64.wrap (q28 .u64 (IntKind.u64.wrap (i64.wrap (i_4 + j_3))) 1)))))
 else q3o xv_0 target_0 cmp_0 i_4)
def q2t (xv_0 : List GItem) (target_0 : GRec) (cmp_0 : GItem -> GRec -> Option Int) : Option (Int × Bool) :=
 q04 (q5g xv_0 target_0 cmp_0) rounds (0, (xv_0.length : Int))
theorem qo6 (xv_0 : List GItem) (target_0 : GRec) (cmp_0 : GItem -> GRec -> Option Int) (g_cmp_0 : FuncId) (c_cmp_0 : List AV) (F_cmp_0 : q08 c_cmp_0 = true) (E_cmp_0 : d9 pp g_cmp_0 = true) (H_cmp_0 : ∀ (x0 : GItem) (x1 : GRec) (r : Int), cmp_0 x0 x1 = some r -> PureS pp g_cmp_0 ([.agg (Row.row x0), .agg (Row.row x1)] ++ c_cmp_0) 0 (.v (.int .i64 r))) (r : Int × Bool) (h : q2t xv_0 target_0 cmp_0 = some r) : PureS pp 128 [.sl 3 (enc xv_0), .agg (Row.row target_0), .clo g_cmp_0 c_cmp_0] 0 (.tup [.v (.int .i64 r.1), .v (.bool r.2)]) := by
 refine ptI Tryz.func128 rfl ?_; rw [q2t] at h; have F := trivial; refine sM ?_; refine sM ?_; refine sM ?_; refine q5r (fun (i_2 : Int) => q3o xv_0 target_0 cmp_0 i_2 = some r) [0, 2, 4, 8] (fun i_2 => ([(9, .v (.int .i64 i_2))], [(0, .box (Row.row target_0))])) 1 ?_ ?_
 .
  intro _ Q5; refine w9 fun _ Q6 => ?_; refine q12 h [0, 2, 4, 8] (fun x => ([(9, .v (.int .i64 x.1)), (10, .v (.int .i64 x.2))], [(0, .box (Row.row target_0))])) 1 ?_; rintro m_2 ⟨i_4, j_3⟩ h _ Q7; rw [q5g] at h; refine sg fun _ Q8 => ?_; refine sM ?_; refine sB h (fun _ h => ?_) fun _ h => ?_
  .
   refine y9 (q8 Q8 (w9 fun _ Q10 => ?_)); refine sM ?_; refine sg fun _ Q12 => ?_; refine q0e ?_; refine je2 ?_; obtain ⟨xv_7, F, h⟩ := bI F h; obtain ⟨v_6, ev_6, h⟩ := z8 h; simp only [go_sem, E_cmp_0, F]; refine ai ?_; refine q6c (H_cmp_0 xv_7 target_0 v_6 ev_6) (by rfl) (by simp [go_sem, q08, q0g, F_cmp_0]) ?_; simp only [go_sem]; refine q8 Q12 (sB h (fun _ h => ?_) fun _ h => ?_)
   . simp only [go_sem]; refine q05 Q10 (p8 Q7 ?_); exact nxC _ h [some 0] leA
   . simp only [go_sem]; refine q05 Q10 (p8 Q7 ?_); exact nxC _ h [some 0] leA
  . refine q0w (q29 Q8 (q0x Q7 (q0p Q6 (p8 Q5 (⟨i_4, [some 0], ?_, h⟩))))); exact leA
 .
  rintro i_2 h
  try dsimp only at h
  rw [q3o] at h; refine sg fun _ Q4 => ?_; refine q0e ?_; refine je2 ?_; simp only [go_sem]; rcases hb_6 : (decide (i_2 < (xv_0.length : Int))) with _ | _
  . replace h := q4e h hb_6; simp only [go_sem, hb_6]; refine q8 Q4 (q0a ?_); simp only [go_sem]; obtain rfl := Xd h; refine q2x rfl ?_; exact leA
  . replace h := q4d h hb_6; obtain ⟨xv_4, F, h⟩ := bI F h; obtain ⟨v_3, ev_3, h⟩ := z8 h; simp only [go_sem, hb_6, E_cmp_0, F]; refine ai ?_; refine ai ?_; refine callq (fun _ => (H_cmp_0 xv_4 target_0 v_3 ev_3)) (by rfl) (by simp [go_sem, q08, q0g, F_cmp_0]) ?_; simp only [go_sem]; refine q8 Q4 (q0a ?_); simp only [go_sem]; obtain rfl := Xd h; refine q2x rfl ?_; exact leA
def q9k (xv_0 : GItem) (rv_0 : GRec) : Option Int :=
 q9 (q9l xv_0.Rec rv_0) (fun v_0 =>
 some v_0)
instance z9x (xv_0 : GItem) (rv_0 : GRec) : Ct pp 129 (q9k xv_0 rv_0) [.agg (Row.row xv_0), .agg (Row.row rv_0)] fun r => (.v (.int .i64 r)) := ctI Tryz.func129 rfl (by rw [q9k]; exact au1)
def q56 (s_0 : List GItem) : Option (List GItem) :=
 q02 ((Xf ([] : List GItem) + s_0.length) * 24 <= 140737488355328) (
 some (([] : List GItem) ++ s_0))
theorem ql8 (s_0 : List GItem)  (r : List GItem) (h : q56 s_0 = some r) : DetS pp 100 [.sl 3 (enc s_0)] [] 0 (.osl 0 3 (0) (r.length)) [(0, .arr 3 (enc r))] 1 := by
 refine dtI Tryz.func100 rfl ?_; rw [q56] at h; have F := trivial; refine sM ?_; refine sg fun _ Q2 => ?_; refine sg fun _ Q3 => ?_; simp only [go_sem]; intro nb_0 hnb_0; rcases nb_0 with _ | _
 .
  refine q8 Q3 (jj9 ?_); refine y9 (q8 Q2 (sg fun _ Q4 => ?_)); obtain ⟨g_0, h⟩ := q0j h; have F := Xh F g_0; simp only [Xe, Xg, Xc, Xm] at g_0; have rf_0 : enc ([] : List GItem) ++ enc s_0 = enc (([] : List GItem) ++ s_0) := by exact (q57 ([] : List GItem) s_0).symm
  simp only [go_sem, g_0, rf_0]; exact au
 .
  have hE_nb_0 : s_0 = [] := by cases hq : (s_0) with | nil => rfl | cons y ys => exact absurd (hnb_0 (by rw [hq]; simp [enc])) (by simp)
  simp only [hE_nb_0] at h; exact au
def q3w (x_0 : List GItem) (i_0 : Int) (v_0 : List GItem) : Option (List GItem) := z9r 24 x_0 i_0 v_0
theorem qm2 : InsLay pp (j2o 130 147 148 0 3 4 61 62) 3 24 (.agg #[.int .i64 0, .int .i64 0, .int .i64 0] : Value) := { mixed := by kernel_rfl, t0 := Tryz.underlying0, a0 := Tryz.isAgg0, z0 := Tryz.sizeOf0, v0 := Tryz.zeroValue0, t3 := Tryz.underlying3, a3 := Tryz.isAgg3, z3 := Tryz.sizeOf3, v3 := Tryz.zeroValue3, t4 := Tryz.underlying4, a4 := Tryz.isAgg4, z4 := Tryz.sizeOf4, v4 := Tryz.zeroValue4, t24 := Tryz.underlying62, a24 := Tryz.isAgg62, z24 := Tryz.sizeOf62, v24 := Tryz.zeroValue62, z9 := Tryz.sizeOf61, i9 := zv7 (by kernel_rfl), f22 := ⟨"slices.Insert[[]backwash/api.Item,backwash/api.Item]", by decide, by kernel_rfl⟩, ov := ⟨_, Tryz.func147, by kernel_rfl, by kernel_rfl, by kernel_rfl, by kernel_rfl⟩ }
theorem qm3 (x_0 : List GItem) (i_0 : Int) (v_0 : List GItem) (r : List GItem) (h : q3w x_0 i_0 v_0 = some r) : DetS pp 130 [.osl 0 3 0 (x_0.length), .v (.int .i64 i_0), .osl 1 3 0 (v_0.length)] [(0, .arr 3 (enc x_0)), (1, .arr 3 (enc v_0))] 2 (.osl 2 3 0 (r.length)) [(2, .arr 3 (enc r))] 3 :=
  j0h qm2 (by kernel_rfl) (by kernel_rfl) (by decide) (by rfl) (by decide) rfl (fun _ => rfl) h
def q7k (x_0 : List GItem) (i_0 : Int) (j_0 : Int) : Option (List GItem) := za3 x_0 i_0 j_0
theorem qt0 : DelLay pp (j2o 131 0 0 0 3 4 61 62) 3 (.agg #[.int .i64 0, .int .i64 0, .int .i64 0] : Value) := { mixed := by kernel_rfl, t0 := Tryz.underlying0, a0 := Tryz.isAgg0, z0 := Tryz.sizeOf0, v0 := Tryz.zeroValue0, t3 := Tryz.underlying3, a3 := Tryz.isAgg3, z3 := Tryz.sizeOf3, v3 := Tryz.zeroValue3, t4 := Tryz.underlying4, a4 := Tryz.isAgg4, z4 := Tryz.sizeOf4, v4 := Tryz.zeroValue4, t24 := Tryz.underlying62, a24 := Tryz.isAgg62, z24 := Tryz.sizeOf62, v24 := Tryz.zeroValue62, z9 := Tryz.sizeOf61, v9 := Tryz.zeroValue61, i9 := j54 (b := 24) (by kernel_rfl), f24 := ⟨"slices.Delete[[]backwash/api.Item,backwash/api.Item]", by decide, by kernel_rfl⟩ }
theorem qt1 (x_0 : List GItem) (i_0 : Int) (j_0 : Int) (r : List GItem) (h : q7k x_0 i_0 j_0 = some r) : DetS pp 131 [.osl 0 3 0 (x_0.length), .v (.int .i64 i_0), .v (.int .i64 j_0)] [(0, .arr 3 (enc x_0))] 1 (.osl 1 3 0 (r.length)) [(1, .arr 3 (enc r))] 2 :=
  j0q qt0 (by kernel_rfl) (by decide) (by rfl) (by rfl) (fun _ => rfl) h
def q6m (b_0 : List GItem) (rv_0 : GRec) (nv_0 : Int) : Option (List GItem) :=
 q9 (q2t b_0 rv_0 (fun x0_ x1_ => q9k x0_ x1_)) (fun v_0 =>
 (if (nv_0 == 0) = true then some b_0
 else q9 (qj8 nv_0) (fun v_1 =>
 (if (!v_1) = true then some b_0
 else (if (!v_0.2) = true then q9 (q3w b_0 v_0.1 ([(⟨rv_0, nv_0⟩ : GItem)] : List GItem)) (fun v_2 =>
 some v_2)
 else q9 (idx b_0 v_0.1) (fun xv_0 =>
 (if ((i64.wrap (xv_0.N + nv_0)) == 0) = true then q9 (q7k b_0 v_0.1 (i64.wrap (v_0.1 + 1))) (fun v_3 =>
 some v_3)
 else q9 (qj8 (i64.wrap (xv_0.N + nv_0))) (fun v_4 =>
 (if v_4 = true then some (Xy b_0 (v_0.1.toNat) (⟨xv_0.Rec, i64.wrap (xv_0.N + nv_0)⟩ : GItem))
 else some b_0)))))))))
theorem qw6 (b_0 : List GItem) (rv_0 : GRec) (nv_0 : Int)  (r : List GItem) (h : q6m b_0 rv_0 nv_0 = some r) : DetS pp 102 [.osl 0 3 (0) (b_0.length), .agg (Row.row rv_0), .v (.int .i64 nv_0)] [(0, .arr 3 (enc b_0))] 1 (.osl 1 3 (0) (r.length)) [(1, .arr 3 (enc r))] 2 := by
 refine dtI Tryz.func102 rfl ?_; rw [q6m] at h; have F := trivial; refine sM ?_; refine sg fun _ Q2 => ?_; obtain ⟨v_0, ev_0, h⟩ := z8 h; simp only [go_sem]; refine qs7 (qo6 b_0 rv_0 (fun x0_ x1_ => q9k x0_ x1_) 129 [] (by rfl) (by kernel_rfl) (fun y0 y1 r_ e_ => z9x y0 y1 r_ e_) v_0 ev_0) ?_; simp only [go_sem]; refine q8 Q2 (jg fun _ Q3 => ?_); refine w9 fun _ Q4 => ?_; refine sg fun _ Q5 => ?_; simp only [go_sem]; rcases hb_0 : (nv_0 == 0) with _ | _
 .
  replace h := q4e h hb_0; simp only [go_sem, hb_0]; refine q53 h fun v_1 h => ?_; simp only [go_sem]; refine q8 Q5 (sB h (fun _ h => ?_) fun _ h => ?_)
  . exact au
  .
   refine sM ?_; refine sB h (fun _ h => ?_) fun _ h => ?_
   .
    refine sg fun _ Q8 => ?_; have rf_0 : [[.v (.int .i64 rv_0.K), .v (.int .i64 rv_0.V), .v (.int .i64 nv_0)]] = enc ([(⟨rv_0, nv_0⟩ : GItem)] : List GItem) := by rfl
    obtain ⟨v_2, ev_2, h⟩ := z8 h; simp only [go_sem]; simp only [rf_0]; refine q1r [0, 2] (qm3 b_0 v_0.1 ([(⟨rv_0, nv_0⟩ : GItem)] : List GItem) v_2 ev_2) ?_; simp only [go_sem]; exact au
   .
    refine sg fun _ Q9 => ?_; obtain ⟨xv_0, F, h⟩ := bI F h; simp only [go_sem, F]; refine ai ?_; refine q8 Q9 (sB h (fun _ h => ?_) fun _ h => ?_)
    . refine sg fun _ Q10 => ?_; obtain ⟨v_3, ev_3, h⟩ := z8 h; simp only [go_sem]; refine q1r [0] (qt1 b_0 v_0.1 (i64.wrap (v_0.1 + 1)) v_3 ev_3) ?_; simp only [go_sem]; exact au
    .
     refine sg fun _ Q11 => ?_; simp only [go_sem, F]; refine ai ?_; refine q53 h fun v_4 h => ?_; simp only [go_sem]; refine q8 Q11 (sB h (fun _ h => ?_) fun _ h => ?_)
     . have rf_1 := qa2 b_0 (v_0.1.toNat) (⟨xv_0.Rec, i64.wrap (xv_0.N + nv_0)⟩ : GItem); simp only [j21] at rf_1; simp only [go_sem, rf_1, F]; refine ai ?_; refine ai ?_; exact au
     . exact au
 . replace h := q4d h hb_0; simp only [go_sem, hb_0]; exact au
def ql2 (b_0 : List GItem) (a_2 : List GItem) : Option (List GItem) :=
 q9 (q6v b_0) (fun v_0 =>
 (if (!v_0) = true then some ([] : List GItem)
 else some a_2))
def ql3 (b_0 : List GItem) (rec_2 : Int × (List GItem) -> Option (List GItem)) : Int × (List GItem) -> Option (List GItem) :=
 fun (t8_3, a_4) =>
 (if (decide (t8_3 < (b_0.length : Int))) = true then q9 (idx b_0 t8_3) (fun xv_5 =>
 (if (decide (0 < xv_5.N)) = true then q02 ((a_4.length + Xf ([xv_5] : List GItem)) * 24 <= 140737488355328) (
 rec_2 (i64.wrap (t8_3 + 1), (a_4 ++ ([xv_5] : List GItem))))
 else rec_2 (i64.wrap (t8_3 + 1), a_4)))
 else ql2 b_0 a_4)
def qg2 (b_0 : List GItem) : Option (List GItem) :=
 q04 (ql3 b_0) rounds (0, [])
theorem z11 (b_0 : List GItem)  (r : List GItem) (h : qg2 b_0 = some r) : DetS pp 111 [.sl 3 (enc b_0)] [] 0 (.osl 0 3 (0) (r.length)) [(0, .arr 3 (enc r))] 1 := by
 refine dtI Tryz.func111 rfl ?_; rw [qg2] at h; have F := trivial; refine sM ?_; refine sM ?_; refine q5r (fun (a_2 : (List GItem)) => ql2 b_0 a_2 = some r) [0] (fun a_2 => ([(3, .osl 0 3 (0) (a_2.length))], [(0, .arr 3 (enc a_2))])) 1 ?_ ?_
 .
  intro _ Q7; refine sM ?_; refine w9 fun _ Q9 => ?_; refine q12 h [0, 6, 7] (fun x => ([(3, .osl 0 3 (0) (x.2.length)), (8, .v (.int .i64 x.1))], [(0, .arr 3 (enc x.2))])) 1 ?_; rintro m_2 ⟨t8_3, a_4⟩ h _ Q10; rw [ql3] at h; refine sM ?_; refine sg fun _ Q12 => ?_; refine sB h (fun _ h => ?_) fun _ h => ?_
  .
   refine y9 (q8 Q12 (jg fun _ Q13 => ?_)); refine w9 fun _ Q14 => ?_; refine sg fun _ Q15 => ?_; obtain ⟨xv_5, F, h⟩ := bI F h; simp only [go_sem, F]; refine ai ?_; refine q8 Q15 (sM ?_); refine sB h (fun _ h => ?_) fun _ h => ?_
   .
    have rf_8 : [[.v (.int .i64 xv_5.Rec.K), .v (.int .i64 xv_5.Rec.V), .v (.int .i64 xv_5.N)]] = enc ([xv_5] : List GItem) := by rfl
    obtain ⟨g_5, h⟩ := q0j h; have F := Xh F g_5; simp only [Xe, Xg, Xc, Xm] at g_5; have rf_9 : enc a_4 ++ [[.v (.int .i64 xv_5.Rec.K), .v (.int .i64 xv_5.Rec.V), .v (.int .i64 xv_5.N)]] = enc (a_4 ++ ([xv_5] : List GItem)) := by exact (q57 a_4 ([xv_5] : List GItem)).symm
    simp only [go_sem, g_5, rf_9]; simp only [rf_8]; exact au
   . exact au
  . exact au
 .
  rintro a_2 h
  try dsimp only at h
  rw [ql2] at h; exact au
def qw7 (b_0 : List GItem) (rv_0 : GRec) (nv_0 : Int) : Option (List GItem) :=
 q9 (q56 b_0) (fun v_0 =>
 q9 (q6v b_0) (fun v_1 =>
 (if (!v_1) = true then some v_0
 else q9 (q6m v_0 rv_0 nv_0) (fun v_2 =>
 some v_2))))
theorem zg2 (b_0 : List GItem) (rv_0 : GRec) (nv_0 : Int)  (r : List GItem) (h : qw7 b_0 rv_0 nv_0 = some r) : DetS pp 141 [.sl 3 (enc b_0), .agg (Row.row rv_0), .v (.int .i64 nv_0)] [] 0 (.osl 0 3 (0) (r.length)) [(0, .arr 3 (enc r))] 1 := by
 refine dtI Tryz.func141 rfl ?_; rw [qw7] at h; have F := trivial; refine sM ?_; refine sg fun _ Q2 => ?_; obtain ⟨v_0, ev_0, h⟩ := z8 h; simp only [go_sem]; refine q1r [] (ql8 b_0 v_0 ev_0) ?_; simp only [go_sem]; refine q8 Q2 (sg fun _ Q3 => ?_); refine sg fun _ Q4 => ?_; simp only [go_sem]; refine q53 h fun v_1 h => ?_; simp only [go_sem]; refine q8 Q4 (sB h (fun _ h => ?_) fun _ h => ?_)
 . exact au
 . refine y9 (q8 Q3 (sg fun _ Q6 => ?_)); obtain ⟨v_2, ev_2, h⟩ := z8 h; simp only [go_sem]; refine q1r [1] (qw6 v_0 rv_0 nv_0 v_2 ev_2) ?_; simp only [go_sem]; exact au
def qh1 (b_0 : List GItem) (times_0 : Int) (rec_1 : Int × (List GItem) -> Option (List GItem)) : Int × (List GItem) -> Option (List GItem) :=
 fun (t23_1, a_2) =>
 (if (decide (t23_1 < (b_0.length : Int))) = true then q9 (idx b_0 t23_1) (fun xv_2 =>
 q9 (q6m a_2 xv_2.Rec (i64.wrap (times_0 * xv_2.N))) (fun v_5 =>
 rec_1 (i64.wrap (t23_1 + 1), v_5)))
 else some a_2)
def qs3 (a_0 : List GItem) (b_0 : List GItem) (times_0 : Int) : Option (List GItem) :=
 q9 (q56 a_0) (fun v_0 =>
 q9 (q6v a_0) (fun v_1 =>
 (if v_1 = true then q9 (q6v b_0) (fun v_2 =>
 (if (!v_2) = true then some v_0
 else q04 (qh1 b_0 times_0) rounds (0, v_0)))
 else some v_0)))
theorem z7f (a_0 : List GItem) (b_0 : List GItem) (times_0 : Int)  (r : List GItem) (h : qs3 a_0 b_0 times_0 = some r) : DetS pp 57 [.sl 3 (enc a_0), .sl 3 (enc b_0), .v (.int .i64 times_0)] [] 0 (.osl 0 3 (0) (r.length)) [(0, .arr 3 (enc r))] 1 := by
 refine dtI Tryz.func57 rfl ?_; rw [qs3] at h; have F := trivial; refine sM ?_; refine sg fun _ Q2 => ?_; obtain ⟨v_0, ev_0, h⟩ := z8 h; simp only [go_sem]; refine q1r [] (ql8 a_0 v_0 ev_0) ?_; simp only [go_sem]; refine q8 Q2 (sg fun _ Q3 => ?_); refine sg fun _ Q4 => ?_; simp only [go_sem]; refine q53 h fun v_1 h => ?_; simp only [go_sem]; rcases hb_0 : v_1 with _ | _
 . replace h := q4e h hb_0; simp only [go_sem, hb_0]; exact au
 .
  replace h := q4d h hb_0; simp only [go_sem, hb_0]; refine q53 h fun v_2 h => ?_; simp only [go_sem]; refine q8 Q4 (sB h (fun _ h => ?_) fun _ h => ?_)
  . exact au
  .
   refine y9 (q8 Q3 (jg fun _ Q7 => ?_)); refine sM ?_; refine w9 fun _ Q9 => ?_; refine q12 h [2, 21, 22] (fun x => ([(7, .osl 0 3 (0) (x.2.length)), (23, .v (.int .i64 x.1))], [(0, .arr 3 (enc x.2))])) 1 ?_; rintro m_1 ⟨t23_1, a_2⟩ h _ Q10; rw [qh1] at h; refine sM ?_; refine sg fun _ Q12 => ?_; refine sB h (fun _ h => ?_) fun _ h => ?_
   . refine y9 (q8 Q12 (sg fun _ Q13 => ?_)); refine w9 fun _ Q14 => ?_; refine sg fun _ Q15 => ?_; obtain ⟨xv_2, F, h⟩ := bI F h; simp only [go_sem, F]; refine ai ?_; refine q8 Q15 ?_; obtain ⟨v_5, ev_5, h⟩ := z8 h; simp only [go_sem]; refine q1r [0] (qw6 a_2 xv_2.Rec (i64.wrap (times_0 * xv_2.N)) v_5 ev_5) ?_; simp only [go_sem]; exact au
   . exact au
def q61 (a_0 : List GItem) (b_0 : List GItem) : Option (List GItem) :=
 q9 (qs3 a_0 b_0 1) (fun v_0 =>
 some v_0)
theorem z9y (a_0 : List GItem) (b_0 : List GItem)  (r : List GItem) (h : q61 a_0 b_0 = some r) : DetS pp 36 [.sl 3 (enc a_0), .sl 3 (enc b_0)] [] 0 (.osl 0 3 (0) (r.length)) [(0, .arr 3 (enc r))] 1 := by
 refine dtI Tryz.func36 rfl ?_; rw [q61] at h; have F := trivial; refine sM ?_; refine sg fun _ Q2 => ?_; obtain ⟨v_0, ev_0, h⟩ := z8 h; simp only [go_sem]; refine q1r [] (z7f a_0 b_0 1 v_0 ev_0) ?_; simp only [go_sem]; exact au
instance z3n (a_0 : List GItem) (b_0 : List GItem) : Ct pp 36 (q61 a_0 b_0) [.sl 3 (enc a_0), .sl 3 (enc b_0)] fun r => (.sl 3 (enc r)) := ⟨fun r h => (z9y a_0 b_0  r h).pure leA⟩
def q09 (mv_0 : GProg_machine) (nv_0 : Int) : Option GProg_machine :=
 (if ((mv_0.stack.length : Int) == 8) = true then some (⟨mv_0.r, mv_0.stack, mv_0.out, mv_0.at_, 1⟩ : GProg_machine)
 else q02 ((mv_0.stack.length + Xf ([nv_0] : List Int)) * 8 <= 140737488355328) (
 some (⟨mv_0.r, (mv_0.stack ++ ([nv_0] : List Int)), mv_0.out, mv_0.at_, mv_0.bad⟩ : GProg_machine)))
theorem q0n (mv_0 : GProg_machine) (nv_0 : Int)  (r : GProg_machine) (h : q09 mv_0 nv_0 = some r) : DetS pp 162 [.ptr 0 0, .v (.int .i64 nv_0)] [(0, .box [.v (.int .i64 mv_0.r.K), .v (.int .i64 mv_0.r.V), .osl 1 1 (0) (mv_0.stack.length), .osl 2 2 (0) (mv_0.out.length), .v (.int .i64 mv_0.at_), .v (.int .i64 mv_0.bad)]), (1, .arr 1 (enc mv_0.stack)), (2, .arr 2 (enc mv_0.out))] 3 (.tup []) [(0, .box [.v (.int .i64 r.r.K), .v (.int .i64 r.r.V), .osl 3 1 (0) (r.stack.length), .osl 4 2 (0) (r.out.length), .v (.int .i64 r.at_), .v (.int .i64 r.bad)]), (3, .arr 1 (enc r.stack)), (4, .arr 2 (enc r.out))] 5 := by
 refine dtI Tryz.func162 rfl ?_; rw [q09] at h; have F := trivial; refine sg fun _ Q1 => ?_; refine sM ?_; refine sB h (fun _ h => ?_) fun _ h => ?_
 . exact au
 .
  refine y9 (q8 Q1 ?_); have rf_0 : [[.v (.int .i64 nv_0)]] = enc ([nv_0] : List Int) := by rfl
  obtain ⟨g_0, h⟩ := q0j h; have F := Xh F g_0; simp only [Xe, Xg, Xc, Xm] at g_0; have rf_1 : enc mv_0.stack ++ [[.v (.int .i64 nv_0)]] = enc (mv_0.stack ++ ([nv_0] : List Int)) := by exact (q57 mv_0.stack ([nv_0] : List Int)).symm
  simp only [go_sem, g_0, rf_1]; simp only [rf_0]; obtain rfl := Xd h; refine q1s [some 4, some 2] ?_; exact leA
def q2a (mv_0 : GProg_machine) (xv_0 : GIns) : Option (Bool × GProg_machine) :=
 (if (xv_0.Op == 1) = true then q9 (q09 mv_0 xv_0.N) (fun v_0 =>
 some (true, v_0))
 else (if (xv_0.Op == 2) = true then q9 (q09 mv_0 mv_0.r.K) (fun v_1 =>
 some (true, v_1))
 else (if (xv_0.Op == 3) = true then q9 (q09 mv_0 mv_0.r.V) (fun v_2 =>
 some (true, v_2))
 else (if (xv_0.Op == 11) = true then (if (decide ((i64.wrap ((mv_0.stack.length : Int) - 1)) < 0)) = true then some (true, (⟨mv_0.r, mv_0.stack, mv_0.out, mv_0.at_, 1⟩ : GProg_machine))
 else q02 (0 <= i64.wrap ((mv_0.stack.length : Int) - 1) /\ i64.wrap ((mv_0.stack.length : Int) - 1) <= (mv_0.stack.length : Int) /\ (mv_0.stack.length : Int) <= (mv_0.stack.length : Int) /\ (mv_0.stack.length : Int) <= (mv_0.stack.length : Int)) (
 q02 (0 <= 0 /\ 0 <= i64.wrap ((mv_0.stack.length : Int) - 1) /\ i64.wrap ((mv_0.stack.length : Int) - 1) <= (mv_0.stack.length : Int)) (
 q02 (0 < Xa (mv_0.stack.length : Int) - Xa (i64.wrap ((mv_0.stack.length : Int) - 1))) (
 q9 (idx (Xb (Xa (mv_0.stack.length : Int) - Xa (i64.wrap ((mv_0.stack.length : Int) - 1))) (Xn (Xa (i64.wrap ((mv_0.stack.length : Int) - 1))) mv_0.stack)) 0) (fun xv_1 =>
 q9 (q09 (⟨mv_0.r, (Xb (Xa (i64.wrap ((mv_0.stack.length : Int) - 1))) mv_0.stack), mv_0.out, mv_0.at_, mv_0.bad⟩ : GProg_machine) xv_1) (fun v_3 =>
 q9 (q09 v_3 xv_1) (fun v_4 =>
 some (true, v_4))))))))
 else (if (xv_0.Op == 12) = true then (if (decide ((i64.wrap ((mv_0.stack.length : Int) - 2)) < 0)) = true then some (true, (⟨mv_0.r, mv_0.stack, mv_0.out, mv_0.at_, 1⟩ : GProg_machine))
 else q02 (0 <= i64.wrap ((mv_0.stack.length : Int) - 2) /\ i64.wrap ((mv_0.stack.length : Int) - 2) <= (mv_0.stack.length : Int) /\ (mv_0.stack.length : Int) <= (mv_0.stack.length : Int) /\ (mv_0.stack.length : Int) <= (mv_0.stack.length : Int)) (
 q02 (0 <= 0 /\ 0 <= i64.wrap ((mv_0.stack.length : Int) - 2) /\ i64.wrap ((mv_0.stack.length : Int) - 2) <= (mv_0.stack.length : Int)) (
 q02 (0 < Xa (mv_0.stack.length : Int) - Xa (i64.wrap ((mv_0.stack.length : Int) - 2))) (
 q9 (idx (Xb (Xa (mv_0.stack.length : Int) - Xa (i64.wrap ((mv_0.stack.length : Int) - 2))) (Xn (Xa (i64.wrap ((mv_0.stack.length : Int) - 2))) mv_0.stack)) 0) (fun xv_2 =>
 q9 (idx (Xb (Xa (mv_0.stack.length : Int) - Xa (i64.wrap ((mv_0.stack.length : Int) - 2))) (Xn (Xa (i64.wrap ((mv_0.stack.length : Int) - 2))) mv_0.stack)) 1) (fun xv_3 =>
 q9 (q09 (⟨mv_0.r, (Xb (Xa (i64.wrap ((mv_0.stack.length : Int) - 2))) mv_0.stack), mv_0.out, mv_0.at_, mv_0.bad⟩ : GProg_machine) xv_3) (fun v_5 =>
 q9 (q09 v_5 xv_2) (fun v_6 =>
 some (true, v_6)))))))))
 else (if (xv_0.Op == 13) = true then (if (decide ((i64.wrap ((mv_0.stack.length : Int) - 1)) < 0)) = true then some (true, (⟨mv_0.r, mv_0.stack, mv_0.out, mv_0.at_, 1⟩ : GProg_machine))
 else q02 (0 <= i64.wrap ((mv_0.stack.length : Int) - 1) /\ i64.wrap ((mv_0.stack.length : Int) - 1) <= (mv_0.stack.length : Int) /\ (mv_0.stack.length : Int) <= (mv_0.stack.length : Int) /\ (mv_0.stack.length : Int) <= (mv_0.stack.length : Int)) (
 q02 (0 <= 0 /\ 0 <= i64.wrap ((mv_0.stack.length : Int) - 1) /\ i64.wrap ((mv_0.stack.length : Int) - 1) <= (mv_0.stack.length : Int)) (
 some (true, (⟨mv_0.r, (Xb (Xa (i64.wrap ((mv_0.stack.length : Int) - 1))) mv_0.stack), mv_0.out, mv_0.at_, mv_0.bad⟩ : GProg_machine)))))
 else some (false, mv_0)))))))
theorem qh2 (mv_0 : GProg_machine) (xv_0 : GIns)  (r : Bool × GProg_machine) (h : q2a mv_0 xv_0 = some r) : DetS pp 159 [.ptr 0 0, .agg (Row.row xv_0)] [(0, .box [.v (.int .i64 mv_0.r.K), .v (.int .i64 mv_0.r.V), .osl 1 1 (0) (mv_0.stack.length), .osl 2 2 (0) (mv_0.out.length), .v (.int .i64 mv_0.at_), .v (.int .i64 mv_0.bad)]), (1, .arr 1 (enc mv_0.stack)), (2, .arr 2 (enc mv_0.out))] 3 (.v (.bool r.1)) [(0, .box [.v (.int .i64 r.2.r.K), .v (.int .i64 r.2.r.V), .osl 3 1 (0) (r.2.stack.length), .osl 4 2 (0) (r.2.out.length), .v (.int .i64 r.2.at_), .v (.int .i64 r.2.bad)]), (3, .arr 1 (enc r.2.stack)), (4, .arr 2 (enc r.2.out))] 5 := by
 refine dtI Tryz.func159 rfl ?_; rw [q2a] at h; have F := trivial; refine sM ?_; refine jg fun _ Q2 => ?_; refine sM ?_; refine w9 fun _ Q4 => ?_; refine sM ?_; refine sB h (fun _ h => ?_) fun _ h => ?_
 . obtain ⟨v_0, ev_0, h⟩ := z8 h; simp only [go_sem]; refine q1r [0, 1, 2] (q0n mv_0 xv_0.N v_0 ev_0) ?_; simp only [go_sem]; exact au
 .
  refine sM ?_; refine sB h (fun _ h => ?_) fun _ h => ?_
  . obtain ⟨v_1, ev_1, h⟩ := z8 h; simp only [go_sem]; refine q1r [0, 1, 2] (q0n mv_0 mv_0.r.K v_1 ev_1) ?_; simp only [go_sem]; exact au
  .
   refine sM ?_; refine sB h (fun _ h => ?_) fun _ h => ?_
   . obtain ⟨v_2, ev_2, h⟩ := z8 h; simp only [go_sem]; refine q1r [0, 1, 2] (q0n mv_0 mv_0.r.V v_2 ev_2) ?_; simp only [go_sem]; exact au
   .
    refine sM ?_; refine sB h (fun _ h => ?_) fun _ h => ?_
    .
     refine sg fun _ Q12 => ?_; simp only [go_sem]; refine qj9 Tryz.func160 rfl (by kernel_rfl) (by kernel_rfl) ?_; refine sM ?_; refine sM ?_; refine sg fun _ Q15 => ?_; refine sM ?_; refine sB h (fun _ h => ?_) fun _ h => ?_
     .
      refine sM ?_; refine sM ?_; refine q0a (q3l Q15 ?_); simp only [go_sem]; refine q5v [] [(0, .box [.v (.int .i64 mv_0.r.K), .v (.int .i64 mv_0.r.V), .osl 1 1 (0) (mv_0.stack.length), .osl 2 2 (0) (mv_0.out.length), .v (.int .i64 mv_0.at_), .v (.int .i64 1)]), (1, .arr 1 (enc mv_0.stack)), (2, .arr 2 (enc mv_0.out)), (3, .box (Row.row xv_0))] 4 (.v (.slice none 0 0)) ?_ ?_
      . exact leA
      refine q76 ?_; simp only [go_sem]; exact au
     .
      refine y9 (q8 Q15 (sg fun _ Q21 => ?_)); refine q0e ?_; refine je2 ?_; obtain ⟨F, h⟩ := bG F h; simp only [go_sem, F]; refine q8 Q21 (sg fun _ Q22 => ?_); obtain ⟨F, h⟩ := bG F h; simp only [go_sem, F]; refine q8 Q22 (sM ?_); refine q0a ?_; simp only [go_sem]; refine q5v [] [(0, .box [.v (.int .i64 mv_0.r.K), .v (.int .i64 mv_0.r.V), .osl 1 1 (0) (Xa (i64.wrap ((mv_0.stack.length : Int) - 1))), .osl 2 2 (0) (mv_0.out.length), .v (.int .i64 mv_0.at_), .v (.int .i64 mv_0.bad)]), (1, .arr 1 (enc mv_0.stack)), (2, .arr 2 (enc mv_0.out)), (3, .box (Row.row xv_0))] 4 (.osl 1 1 (Xa (i64.wrap ((mv_0.stack.length : Int) - 1))) (Xa (mv_0.stack.length : Int) - Xa (i64.wrap ((mv_0.stack.length : Int) - 1)))) ?_ ?_
      . exact leA
      refine q76 ?_; simp only [go_sem]; refine q8 Q12 (sg fun _ Q24 => ?_); obtain ⟨F, h⟩ := bG F h; simp only [go_sem, F]; refine ai ?_; refine q8 Q24 (jj8 ?_); refine sg fun _ Q25 => ?_; obtain ⟨xv_1, ex1, h⟩ := z8 h; obtain ⟨f1a, f1b, f1c, fxv_1d⟩ := qi3 ex1; simp only [Xj, Xl, Xc, Xv] at f1c fxv_1d; simp only [go_sem, f1a, f1b, f1c, fxv_1d]; refine ai ?_; refine q8 Q25 (sg fun _ Q26 => ?_); obtain ⟨v_3, ev_3, h⟩ := z8 h; simp only [go_sem]; refine qa9 [0, 6] ([], [(0, .box [.v (.int .i64 mv_0.r.K), .v (.int .i64 mv_0.r.V), .osl 1 1 (0) (Xf (Xb (Xa (i64.wrap ((mv_0.stack.length : Int) - 1))) mv_0.stack)), .osl 2 2 (0) (mv_0.out.length), .v (.int .i64 mv_0.at_), .v (.int .i64 mv_0.bad)]), (1, .arr 1 (enc (Xb (Xa (i64.wrap ((mv_0.stack.length : Int) - 1))) mv_0.stack))), (2, .arr 2 (enc mv_0.out)), (3, .box (Row.row xv_0))]) 4 [some 3] [.ptr 0 0, .v (.int .i64 xv_1)] ?_; refine q1r [0, 1, 2] (q0n (⟨mv_0.r, (Xb (Xa (i64.wrap ((mv_0.stack.length : Int) - 1))) mv_0.stack), mv_0.out, mv_0.at_, mv_0.bad⟩ : GProg_machine) xv_1 v_3 ev_3) ?_; simp only [go_sem]; refine q8 Q26 ?_; obtain ⟨v_4, ev_4, h⟩ := z8 h; simp only [go_sem]; refine q1r [0, 4, 5] (q0n v_3 xv_1 v_4 ev_4) ?_; simp only [go_sem]; exact au
    .
     refine sM ?_; refine sB h (fun _ h => ?_) fun _ h => ?_
     .
      refine sg fun _ Q29 => ?_; simp only [go_sem]; refine qj9 Tryz.func160 rfl (by kernel_rfl) (by kernel_rfl) ?_; refine sM ?_; refine sM ?_; refine sg fun _ Q32 => ?_; refine sM ?_; refine sB h (fun _ h => ?_) fun _ h => ?_
      .
       refine sM ?_; refine sM ?_; refine q0a (q3l Q32 ?_); simp only [go_sem]; refine q5v [] [(0, .box [.v (.int .i64 mv_0.r.K), .v (.int .i64 mv_0.r.V), .osl 1 1 (0) (mv_0.stack.length), .osl 2 2 (0) (mv_0.out.length), .v (.int .i64 mv_0.at_), .v (.int .i64 1)]), (1, .arr 1 (enc mv_0.stack)), (2, .arr 2 (enc mv_0.out)), (3, .box (Row.row xv_0))] 4 (.v (.slice none 0 0)) ?_ ?_
       . exact leA
       refine q76 ?_; simp only [go_sem]; exact au
      .
       refine y9 (q8 Q32 (sg fun _ Q38 => ?_)); refine q0e ?_; refine je2 ?_; obtain ⟨F, h⟩ := bG F h; simp only [go_sem, F]; refine q8 Q38 (sg fun _ Q39 => ?_); obtain ⟨F, h⟩ := bG F h; simp only [go_sem, F]; refine q8 Q39 (sM ?_); refine q0a ?_; simp only [go_sem]; refine q5v [] [(0, .box [.v (.int .i64 mv_0.r.K), .v (.int .i64 mv_0.r.V), .osl 1 1 (0) (Xa (i64.wrap ((mv_0.stack.length : Int) - 2))), .osl 2 2 (0) (mv_0.out.length), .v (.int .i64 mv_0.at_), .v (.int .i64 mv_0.bad)]), (1, .arr 1 (enc mv_0.stack)), (2, .arr 2 (enc mv_0.out)), (3, .box (Row.row xv_0))] 4 (.osl 1 1 (Xa (i64.wrap ((mv_0.stack.length : Int) - 2))) (Xa (mv_0.stack.length : Int) - Xa (i64.wrap ((mv_0.stack.length : Int) - 2)))) ?_ ?_
       . exact leA
       refine q76 ?_; simp only [go_sem]; refine q8 Q29 (sg fun _ Q41 => ?_); obtain ⟨F, h⟩ := bG F h; simp only [go_sem, F]; refine ai ?_; refine q8 Q41 (jj8 ?_); refine sg fun _ Q42 => ?_; refine q0e ?_; refine je2 ?_; obtain ⟨xv_2, ex2, h⟩ := z8 h; obtain ⟨f2a, f2b, f2c, fxv_2d⟩ := qi3 ex2; simp only [Xj, Xl, Xc, Xv] at f2c fxv_2d; obtain ⟨xv_3, ex3, h⟩ := z8 h; obtain ⟨f3a, f3b, f3c, fxv_3d⟩ := qi3 ex3; simp only [Xj, Xl, Xc, Xv] at f3c fxv_3d; simp only [go_sem, f2a, f2b, f2c, fxv_2d, f3a, f3b, f3c, fxv_3d]; refine ai ?_; refine ai ?_; refine q8 Q42 (sg fun _ Q43 => ?_); obtain ⟨v_5, ev_5, h⟩ := z8 h; simp only [go_sem]; refine qa9 [0, 8] ([], [(0, .box [.v (.int .i64 mv_0.r.K), .v (.int .i64 mv_0.r.V), .osl 1 1 (0) (Xf (Xb (Xa (i64.wrap ((mv_0.stack.length : Int) - 2))) mv_0.stack)), .osl 2 2 (0) (mv_0.out.length), .v (.int .i64 mv_0.at_), .v (.int .i64 mv_0.bad)]), (1, .arr 1 (enc (Xb (Xa (i64.wrap ((mv_0.stack.length : Int) - 2))) mv_0.stack))), (2, .arr 2 (enc mv_0.out)), (3, .box (Row.row xv_0))]) 4 [some 3] [.ptr 0 0, .v (.int .i64 xv_3)] ?_; refine q1r [0, 1, 2] (q0n (⟨mv_0.r, (Xb (Xa (i64.wrap ((mv_0.stack.length : Int) - 2))) mv_0.stack), mv_0.out, mv_0.at_, mv_0.bad⟩ : GProg_machine) xv_3 v_5 ev_5) ?_; simp only [go_sem]; refine q8 Q43 ?_; obtain ⟨v_6, ev_6, h⟩ := z8 h; simp only [go_sem]; refine q1r [0, 4, 5] (q0n v_5 xv_2 v_6 ev_6) ?_; simp only [go_sem]; exact au
     .
      refine sM ?_; refine sB h (fun _ h => ?_) fun _ h => ?_
      .
       simp only [go_sem]; refine qj9 Tryz.func160 rfl (by kernel_rfl) (by kernel_rfl) ?_; refine sM ?_; refine sM ?_; refine sg fun _ Q48 => ?_; refine sM ?_; refine sB h (fun _ h => ?_) fun _ h => ?_
       .
        refine sM ?_; refine sM ?_; refine q0a (q3l Q48 ?_); simp only [go_sem]; refine q5v [] [(0, .box [.v (.int .i64 mv_0.r.K), .v (.int .i64 mv_0.r.V), .osl 1 1 (0) (mv_0.stack.length), .osl 2 2 (0) (mv_0.out.length), .v (.int .i64 mv_0.at_), .v (.int .i64 1)]), (1, .arr 1 (enc mv_0.stack)), (2, .arr 2 (enc mv_0.out)), (3, .box (Row.row xv_0))] 4 (.v (.slice none 0 0)) ?_ ?_
        . exact leA
        refine q76 ?_; simp only [go_sem]; exact au
       .
        refine y9 (q8 Q48 (sg fun _ Q53 => ?_)); refine q0e ?_; refine je2 ?_; obtain ⟨F, h⟩ := bG F h; simp only [go_sem, F]; refine q8 Q53 (sg fun _ Q54 => ?_); obtain ⟨F, h⟩ := bG F h; simp only [go_sem, F]; refine q8 Q54 (sM ?_); refine q0a ?_; simp only [go_sem]; refine q5v [] [(0, .box [.v (.int .i64 mv_0.r.K), .v (.int .i64 mv_0.r.V), .osl 1 1 (0) (Xa (i64.wrap ((mv_0.stack.length : Int) - 1))), .osl 2 2 (0) (mv_0.out.length), .v (.int .i64 mv_0.at_), .v (.int .i64 mv_0.bad)]), (1, .arr 1 (enc mv_0.stack)), (2, .arr 2 (enc mv_0.out)), (3, .box (Row.row xv_0))] 4 (.osl 1 1 (Xa (i64.wrap ((mv_0.stack.length : Int) - 1))) (Xa (mv_0.stack.length : Int) - Xa (i64.wrap ((mv_0.stack.length : Int) - 1)))) ?_ ?_
        . exact leA
        refine q76 ?_; simp only [go_sem]; exact au
      . exact au
def q7z (nv_0 : Int) : Option Int :=
 (if (decide (nv_0 < 0)) = true then some (IntKind.u64.wrap (0 - (IntKind.u64.wrap nv_0)))
 else some (IntKind.u64.wrap nv_0))
instance j3l (nv_0 : Int) : Ct pp 165 (q7z nv_0) [.v (.int .i64 nv_0)] fun r => (.v (.int .u64 r)) := ctI Tryz.func165 rfl (by rw [q7z]; exact au1)
def q4x (xv_0 : Int) (y_0 : Int) : Option (Int × Int) :=
 some (IntKind.u64.wrap ((IntKind.u64.wrap ((IntKind.u64.wrap ((q28 .u64 xv_0 32) * (q28 .u64 y_0 32))) + (q28 .u64 (IntKind.u64.wrap ((IntKind.u64.wrap ((q28 .u64 xv_0 32) * (qu9 .u64 y_0 4294967295))) + (q28 .u64 (IntKind.u64.wrap ((qu9 .u64 xv_0 4294967295) * (qu9 .u64 y_0 4294967295))) 32))) 32))) + (q28 .u64 (IntKind.u64.wrap ((qu9 .u64 (IntKind.u64.wrap ((IntKind.u64.wrap ((q28 .u64 xv_0 32) * (qu9 .u64 y_0 4294967295))) + (q28 .u64 (IntKind.u64.wrap ((qu9 .u64 xv_0 4294967295) * (qu9 .u64 y_0 4294967295))) 32))) 4294967295) + (IntKind.u64.wrap ((qu9 .u64 xv_0 4294967295) * (q28 .u64 y_0 32))))) 32)), IntKind.u64.wrap (xv_0 * y_0))
instance j0k (xv_0 : Int) (y_0 : Int) : Ct pp 153 (q4x xv_0 y_0) [.v (.int .u64 xv_0), .v (.int .u64 y_0)] fun r => (.tup [.v (.int .u64 r.1), .v (.int .u64 r.2)]) := ctI Tryz.func153 rfl (by rw [q4x]; exact au1)
def qj4 (a_0 : Int) (b_0 : Int) : Option (Int × Bool) :=
 q9 (q7z a_0) (fun v_0 =>
 q9 (q7z b_0) (fun v_1 =>
 q9 (q4x v_0 v_1) (fun v_2 =>
 (if (!((decide (a_0 < 0)) == (decide (b_0 < 0)))) = true then some (i64.wrap (0 - (i64.wrap v_2.2)), ((v_2.1 == 0) && (decide (v_2.2 <= 9223372036854775808))))
 else some (i64.wrap v_2.2, ((v_2.1 == 0) && (decide (v_2.2 < 9223372036854775808))))))))
instance j6h (a_0 : Int) (b_0 : Int) : Ct pp 163 (qj4 a_0 b_0) [.v (.int .i64 a_0), .v (.int .i64 b_0)] fun r => (.tup [.v (.int .i64 r.1), .v (.bool r.2)]) := ctI Tryz.func163 rfl (by rw [qj4]; exact au1)
def qa0 (ok_0 : Bool) : Option Int :=
 (if ok_0 = true then some 1
 else some 0)
instance j6g (ok_0 : Bool) : Ct pp 164 (qa0 ok_0) [.v (.bool ok_0)] fun r => (.v (.int .i64 r)) := ctI Tryz.func164 rfl (by rw [qa0]; exact au1)
def q2c (nv_0 : Int) (ok_0 : Bool) : Option (Int × Int) :=
 (if (!ok_0) = true then some (0, 2)
 else some (nv_0, 0))
def q8t (op_0 : Int) (a_0 : Int) (b_0 : Int) (t53_1 : Bool) : Option (Int × Int) :=
 (if t53_1 = true then (if (b_0 == 0) = true then some (0, 3)
 else (if ((b_0 == (-1)) && (op_0 == 8)) = true then q2c 0 true
 else (if (b_0 == (-1)) = true then q2c (i64.wrap (0 - a_0)) (!(a_0 == (-9223372036854775808)))
 else (if (op_0 == 7) = true then q02 (b_0 ≠ 0) (
 q2c (i64.wrap (Int.tdiv a_0 b_0)) true)
 else q02 (b_0 ≠ 0) (
 q2c (Int.tmod a_0 b_0) true)))))
 else (if (op_0 == 9) = true then q9 (qa0 (decide (a_0 < b_0))) (fun v_4 =>
 q2c v_4 true)
 else (if (op_0 == 10) = true then q9 (qa0 (a_0 == b_0)) (fun v_5 =>
 q2c v_5 true)
 else q2c 0 true)))
def qr9 (op_0 : Int) (a_0 : Int) (b_0 : Int) : Option (Int × Int) :=
 (if (op_0 == 4) = true then q2c (i64.wrap (a_0 + b_0)) ((!((decide (a_0 < 0)) == (decide (b_0 < 0)))) || ((decide ((i64.wrap (a_0 + b_0)) < 0)) == (decide (a_0 < 0))))
 else (if (op_0 == 5) = true then q2c (i64.wrap (a_0 - b_0)) (((decide (a_0 < 0)) == (decide (b_0 < 0))) || ((decide ((i64.wrap (a_0 - b_0)) < 0)) == (decide (a_0 < 0))))
 else (if (op_0 == 6) = true then q9 (qj4 a_0 b_0) (fun v_3 =>
 q2c v_3.1 v_3.2)
 else (if (op_0 == 7) = true then q8t op_0 a_0 b_0 (op_0 == 7)
 else q8t op_0 a_0 b_0 (op_0 == 8)))))
instance zg1 (op_0 : Int) (a_0 : Int) (b_0 : Int) : Ct pp 161 (qr9 op_0 a_0 b_0) [.v (.int .i64 op_0), .v (.int .i64 a_0), .v (.int .i64 b_0)] fun r => (.tup [.v (.int .i64 r.1), .v (.int .i64 r.2)]) := ctK Tryz.func161 rfl (by rw [qr9]) (by
 intro r h F; refine sM ?_; refine sM ?_; refine q5r (fun ((nv_0, ok_0) : Int × Bool) => q2c nv_0 ok_0 = some r) [] (fun x => ([(8, .v (.int .i64 x.1)), (9, .v (.bool x.2))], [])) 0 ?_ ?_
 .
  intro _ Q7; refine sM ?_; refine w9 fun _ Q9 => ?_; refine sM ?_; refine sB h (fun _ h => ?_) fun _ h => ?_
  . exact au
  .
   refine sM ?_; refine sB h (fun _ h => ?_) fun _ h => ?_
   . exact au
   .
    refine sM ?_; refine sB h (fun _ h => ?_) fun _ h => ?_
    . exact au
    .
     refine q5r (fun (t53_1 : Bool) => q8t op_0 a_0 b_0 t53_1 = some r) [0, 1, 2, 8, 9, 10] (fun t53_1 => ([(53, .v (.bool t53_1))], [])) 0 ?_ ?_
     . intro _ Q23; exact au
     .
      rintro t53_1 h
      try dsimp only at h
      rw [q8t] at h; exact au
 .
  rintro ⟨nv_0, ok_0⟩ h
  try dsimp only at h
  rw [q2c] at h; exact au)
def q2e (mv_0 : GProg_machine) (xv_0 : GIns) : Option GProg_machine :=
 q9 (q2a (⟨mv_0.r, mv_0.stack, mv_0.out, i64.wrap (mv_0.at_ + 1), mv_0.bad⟩ : GProg_machine) xv_0) (fun v_0 =>
 (if v_0.1 = true then some v_0.2
 else (if (xv_0.Op == 14) = true then some (⟨v_0.2.r, v_0.2.stack, v_0.2.out, xv_0.N, v_0.2.bad⟩ : GProg_machine)
 else (if (xv_0.Op == 15) = true then (if (decide ((i64.wrap ((v_0.2.stack.length : Int) - 1)) < 0)) = true then some (⟨v_0.2.r, v_0.2.stack, v_0.2.out, v_0.2.at_, 1⟩ : GProg_machine)
 else q02 (0 <= i64.wrap ((v_0.2.stack.length : Int) - 1) /\ i64.wrap ((v_0.2.stack.length : Int) - 1) <= (v_0.2.stack.length : Int) /\ (v_0.2.stack.length : Int) <= (v_0.2.stack.length : Int) /\ (v_0.2.stack.length : Int) <= (v_0.2.stack.length : Int)) (
 q02 (0 <= 0 /\ 0 <= i64.wrap ((v_0.2.stack.length : Int) - 1) /\ i64.wrap ((v_0.2.stack.length : Int) - 1) <= (v_0.2.stack.length : Int)) (
 q02 (0 < Xa (v_0.2.stack.length : Int) - Xa (i64.wrap ((v_0.2.stack.length : Int) - 1))) (
 q9 (idx (Xb (Xa (v_0.2.stack.length : Int) - Xa (i64.wrap ((v_0.2.stack.length : Int) - 1))) (Xn (Xa (i64.wrap ((v_0.2.stack.length : Int) - 1))) v_0.2.stack)) 0) (fun xv_1 =>
 (if (xv_1 == 0) = true then some (⟨v_0.2.r, (Xb (Xa (i64.wrap ((v_0.2.stack.length : Int) - 1))) v_0.2.stack), v_0.2.out, xv_0.N, v_0.2.bad⟩ : GProg_machine)
 else some (⟨v_0.2.r, (Xb (Xa (i64.wrap ((v_0.2.stack.length : Int) - 1))) v_0.2.stack), v_0.2.out, v_0.2.at_, v_0.2.bad⟩ : GProg_machine)))))))
 else (if (xv_0.Op == 16) = true then (if (decide ((i64.wrap ((v_0.2.stack.length : Int) - 2)) < 0)) = true then some (⟨v_0.2.r, v_0.2.stack, v_0.2.out, v_0.2.at_, 1⟩ : GProg_machine)
 else q02 (0 <= i64.wrap ((v_0.2.stack.length : Int) - 2) /\ i64.wrap ((v_0.2.stack.length : Int) - 2) <= (v_0.2.stack.length : Int) /\ (v_0.2.stack.length : Int) <= (v_0.2.stack.length : Int) /\ (v_0.2.stack.length : Int) <= (v_0.2.stack.length : Int)) (
 q02 (0 <= 0 /\ 0 <= i64.wrap ((v_0.2.stack.length : Int) - 2) /\ i64.wrap ((v_0.2.stack.length : Int) - 2) <= (v_0.2.stack.length : Int)) (
 q02 (0 < Xa (v_0.2.stack.length : Int) - Xa (i64.wrap ((v_0.2.stack.length : Int) - 2))) (
 (if ((v_0.2.out.length : Int) == 8) = true then some (⟨v_0.2.r, (Xb (Xa (i64.wrap ((v_0.2.stack.length : Int) - 2))) v_0.2.stack), v_0.2.out, v_0.2.at_, 5⟩ : GProg_machine)
 else q9 (idx (Xb (Xa (v_0.2.stack.length : Int) - Xa (i64.wrap ((v_0.2.stack.length : Int) - 2))) (Xn (Xa (i64.wrap ((v_0.2.stack.length : Int) - 2))) v_0.2.stack)) 0) (fun xv_2 =>
 q9 (idx (Xb (Xa (v_0.2.stack.length : Int) - Xa (i64.wrap ((v_0.2.stack.length : Int) - 2))) (Xn (Xa (i64.wrap ((v_0.2.stack.length : Int) - 2))) v_0.2.stack)) 1) (fun xv_3 =>
 q02 ((v_0.2.out.length + Xf ([(⟨xv_2, xv_3⟩ : GRec)] : List GRec)) * 16 <= 140737488355328) (
 some (⟨v_0.2.r, (Xb (Xa (i64.wrap ((v_0.2.stack.length : Int) - 2))) v_0.2.stack), (v_0.2.out ++ ([(⟨xv_2, xv_3⟩ : GRec)] : List GRec)), v_0.2.at_, v_0.2.bad⟩ : GProg_machine)))))))))
 else (if (decide ((i64.wrap ((v_0.2.stack.length : Int) - 2)) < 0)) = true then some (⟨v_0.2.r, v_0.2.stack, v_0.2.out, v_0.2.at_, 1⟩ : GProg_machine)
 else q02 (0 <= i64.wrap ((v_0.2.stack.length : Int) - 2) /\ i64.wrap ((v_0.2.stack.length : Int) - 2) <= (v_0.2.stack.length : Int) /\ (v_0.2.stack.length : Int) <= (v_0.2.stack.length : Int) /\ (v_0.2.stack.length : Int) <= (v_0.2.stack.length : Int)) (
 q02 (0 <= 0 /\ 0 <= i64.wrap ((v_0.2.stack.length : Int) - 2) /\ i64.wrap ((v_0.2.stack.length : Int) - 2) <= (v_0.2.stack.length : Int)) (
 q02 (0 < Xa (v_0.2.stack.length : Int) - Xa (i64.wrap ((v_0.2.stack.length : Int) - 2))) (
 q9 (idx (Xb (Xa (v_0.2.stack.length : Int) - Xa (i64.wrap ((v_0.2.stack.length : Int) - 2))) (Xn (Xa (i64.wrap ((v_0.2.stack.length : Int) - 2))) v_0.2.stack)) 0) (fun xv_4 =>
 q9 (idx (Xb (Xa (v_0.2.stack.length : Int) - Xa (i64.wrap ((v_0.2.stack.length : Int) - 2))) (Xn (Xa (i64.wrap ((v_0.2.stack.length : Int) - 2))) v_0.2.stack)) 1) (fun xv_5 =>
 q9 (qr9 xv_0.Op xv_4 xv_5) (fun v_1 =>
 q9 (q09 (⟨v_0.2.r, (Xb (Xa (i64.wrap ((v_0.2.stack.length : Int) - 2))) v_0.2.stack), v_0.2.out, v_0.2.at_, v_1.2⟩ : GProg_machine) v_1.1) (fun v_2 =>
 some v_2)))))))))))))
theorem qj5 (mv_0 : GProg_machine) (xv_0 : GIns)  (r : GProg_machine) (h : q2e mv_0 xv_0 = some r) : DetS pp 155 [.ptr 0 0, .agg (Row.row xv_0)] [(0, .box [.v (.int .i64 mv_0.r.K), .v (.int .i64 mv_0.r.V), .osl 1 1 (0) (mv_0.stack.length), .osl 2 2 (0) (mv_0.out.length), .v (.int .i64 mv_0.at_), .v (.int .i64 mv_0.bad)]), (1, .arr 1 (enc mv_0.stack)), (2, .arr 2 (enc mv_0.out))] 3 (.tup []) [(0, .box [.v (.int .i64 r.r.K), .v (.int .i64 r.r.V), .osl 3 1 (0) (r.stack.length), .osl 4 2 (0) (r.out.length), .v (.int .i64 r.at_), .v (.int .i64 r.bad)]), (3, .arr 1 (enc r.stack)), (4, .arr 2 (enc r.out))] 5 := by
 refine dtI Tryz.func155 rfl ?_; rw [q2e] at h; have F := trivial; refine sM ?_; refine sM ?_; refine sg fun _ Q3 => ?_; refine sg fun _ Q4 => ?_; obtain ⟨v_0, ev_0, h⟩ := z8 h; simp only [go_sem]; refine q1r [0, 1, 2] (qh2 (⟨mv_0.r, mv_0.stack, mv_0.out, i64.wrap (mv_0.at_ + 1), mv_0.bad⟩ : GProg_machine) xv_0 v_0 ev_0) ?_; simp only [go_sem]; refine q8 Q4 (sB h (fun _ h => ?_) fun _ h => ?_)
 . exact au
 .
  refine y9 (q8 Q3 (sM ?_)); refine w9 fun _ Q6 => ?_; refine sM ?_; refine sB h (fun _ h => ?_) fun _ h => ?_
  . exact au
  .
   refine sM ?_; refine sB h (fun _ h => ?_) fun _ h => ?_
   .
    refine sg fun _ Q9 => ?_; simp only [go_sem]; refine qj9 Tryz.func160 rfl (by kernel_rfl) (by kernel_rfl) ?_; refine sM ?_; refine sM ?_; refine sg fun _ Q12 => ?_; refine sM ?_; refine sB h (fun _ h => ?_) fun _ h => ?_
    .
     refine sM ?_; refine sM ?_; refine q0a (q3l Q12 ?_); simp only [go_sem]; refine q5v [] [(0, .box [.v (.int .i64 v_0.2.r.K), .v (.int .i64 v_0.2.r.V), .osl 4 1 (0) (v_0.2.stack.length), .osl 5 2 (0) (v_0.2.out.length), .v (.int .i64 v_0.2.at_), .v (.int .i64 1)]), (3, .box (Row.row xv_0)), (4, .arr 1 (enc v_0.2.stack)), (5, .arr 2 (enc v_0.2.out))] 6 (.v (.slice none 0 0)) ?_ ?_
     . exact leA
     refine q76 ?_; simp only [go_sem]; exact au
    .
     refine y9 (q8 Q12 (sg fun _ Q17 => ?_)); refine q0e ?_; refine je2 ?_; obtain ⟨F, h⟩ := bG F h; simp only [go_sem, F]; refine q8 Q17 (sg fun _ Q18 => ?_); obtain ⟨F, h⟩ := bG F h; simp only [go_sem, F]; refine q8 Q18 (sM ?_); refine q0a ?_; simp only [go_sem]; refine q5v [] [(0, .box [.v (.int .i64 v_0.2.r.K), .v (.int .i64 v_0.2.r.V), .osl 4 1 (0) (Xa (i64.wrap ((v_0.2.stack.length : Int) - 1))), .osl 5 2 (0) (v_0.2.out.length), .v (.int .i64 v_0.2.at_), .v (.int .i64 v_0.2.bad)]), (3, .box (Row.row xv_0)), (4, .arr 1 (enc v_0.2.stack)), (5, .arr 2 (enc v_0.2.out))] 6 (.osl 4 1 (Xa (i64.wrap ((v_0.2.stack.length : Int) - 1))) (Xa (v_0.2.stack.length : Int) - Xa (i64.wrap ((v_0.2.stack.length : Int) - 1)))) ?_ ?_
     . exact leA
     refine q76 ?_; simp only [go_sem]; refine q8 Q9 (sg fun _ Q20 => ?_); obtain ⟨F, h⟩ := bG F h; obtain ⟨xv_1, ex1, h⟩ := z8 h; obtain ⟨f1a, f1b, f1c, fxv_1d⟩ := qi3 ex1; simp only [Xj, Xl, Xc, Xv] at f1c fxv_1d; simp only [go_sem, f1a, f1b, f1c, fxv_1d, F]; refine ai ?_; refine ai ?_; exact au
   .
    refine sM ?_; refine sB h (fun _ h => ?_) fun _ h => ?_
    .
     refine sg fun _ Q22 => ?_; simp only [go_sem]; refine qj9 Tryz.func160 rfl (by kernel_rfl) (by kernel_rfl) ?_; refine sM ?_; refine sM ?_; refine sg fun _ Q25 => ?_; refine sM ?_; refine sB h (fun _ h => ?_) fun _ h => ?_
     .
      refine sM ?_; refine sM ?_; refine q0a (q3l Q25 ?_); simp only [go_sem]; refine q5v [] [(0, .box [.v (.int .i64 v_0.2.r.K), .v (.int .i64 v_0.2.r.V), .osl 4 1 (0) (v_0.2.stack.length), .osl 5 2 (0) (v_0.2.out.length), .v (.int .i64 v_0.2.at_), .v (.int .i64 1)]), (3, .box (Row.row xv_0)), (4, .arr 1 (enc v_0.2.stack)), (5, .arr 2 (enc v_0.2.out))] 6 (.v (.slice none 0 0)) ?_ ?_
      . exact leA
      refine q76 ?_; simp only [go_sem]; exact au
     .
      refine y9 (q8 Q25 (sg fun _ Q31 => ?_)); refine q0e ?_; refine je2 ?_; obtain ⟨F, h⟩ := bG F h; simp only [go_sem, F]; refine q8 Q31 (sg fun _ Q32 => ?_); obtain ⟨F, h⟩ := bG F h; simp only [go_sem, F]; refine q8 Q32 (sM ?_); refine q0a ?_; simp only [go_sem]; refine q5v [] [(0, .box [.v (.int .i64 v_0.2.r.K), .v (.int .i64 v_0.2.r.V), .osl 4 1 (0) (Xa (i64.wrap ((v_0.2.stack.length : Int) - 2))), .osl 5 2 (0) (v_0.2.out.length), .v (.int .i64 v_0.2.at_), .v (.int .i64 v_0.2.bad)]), (3, .box (Row.row xv_0)), (4, .arr 1 (enc v_0.2.stack)), (5, .arr 2 (enc v_0.2.out))] 6 (.osl 4 1 (Xa (i64.wrap ((v_0.2.stack.length : Int) - 2))) (Xa (v_0.2.stack.length : Int) - Xa (i64.wrap ((v_0.2.stack.length : Int) - 2)))) ?_ ?_
      . exact leA
      refine q76 ?_; simp only [go_sem]; refine q8 Q22 (w9 fun _ Q34 => ?_); refine sg fun _ Q35 => ?_; obtain ⟨F, h⟩ := bG F h; simp only [go_sem, F]; refine ai ?_; refine q8 Q35 (jj9 ?_); refine sM ?_; refine sB h (fun _ h => ?_) fun _ h => ?_
      . exact au
      .
       refine q0e ?_; refine q3i 14 0 0 [0, 0, 2, 6, 14, 0, 32, 96, 0, 256, 768, 2016, 4064, 8190, 16383, 32767, 65535] [5, 6] [0] [] [13] [] mixed (by kernel_rfl) (of_decide_eq_true (by kernel_rfl)) (by kernel_rfl) (by kernel_rfl) (by rfl) ?_; obtain ⟨xv_2, ex2, h⟩ := z8 h; obtain ⟨f2a, f2b, f2c, fxv_2d⟩ := qi3 ex2; simp only [Xj, Xl, Xc, Xv] at f2c fxv_2d; obtain ⟨xv_3, ex3, h⟩ := z8 h; obtain ⟨f3a, f3b, f3c, fxv_3d⟩ := qi3 ex3; simp only [Xj, Xl, Xc, Xv] at f3c fxv_3d; have rf_0 : [[.v (.int .i64 xv_2), .v (.int .i64 xv_3)]] = enc ([(⟨xv_2, xv_3⟩ : GRec)] : List GRec) := by rfl
       obtain ⟨g_6, h⟩ := q0j h; have F := Xh F g_6; simp only [Xe, Xg, Xc, Xm] at g_6; have rf_1 : enc v_0.2.out ++ [[.v (.int .i64 xv_2), .v (.int .i64 xv_3)]] = enc (v_0.2.out ++ ([(⟨xv_2, xv_3⟩ : GRec)] : List GRec)) := by exact (q57 v_0.2.out ([(⟨xv_2, xv_3⟩ : GRec)] : List GRec)).symm
       simp only [go_sem, f2a, f2b, f2c, fxv_2d, f3a, f3b, f3c, fxv_3d, g_6, rf_1]; refine ai ?_; refine ai ?_; simp only [rf_0]; exact au
    .
     refine sg fun _ Q37 => ?_; simp only [go_sem]; refine qj9 Tryz.func160 rfl (by kernel_rfl) (by kernel_rfl) ?_; refine sM ?_; refine sM ?_; refine sg fun _ Q40 => ?_; refine sM ?_; refine sB h (fun _ h => ?_) fun _ h => ?_
     .
      refine sM ?_; refine sM ?_; refine q0a (q3l Q40 ?_); simp only [go_sem]; refine q5v [] [(0, .box [.v (.int .i64 v_0.2.r.K), .v (.int .i64 v_0.2.r.V), .osl 4 1 (0) (v_0.2.stack.length), .osl 5 2 (0) (v_0.2.out.length), .v (.int .i64 v_0.2.at_), .v (.int .i64 1)]), (3, .box (Row.row xv_0)), (4, .arr 1 (enc v_0.2.stack)), (5, .arr 2 (enc v_0.2.out))] 6 (.v (.slice none 0 0)) ?_ ?_
      . exact leA
      refine q76 ?_; simp only [go_sem]; exact au
     .
      refine y9 (q8 Q40 (sg fun _ Q45 => ?_)); refine q0e ?_; refine je2 ?_; obtain ⟨F, h⟩ := bG F h; simp only [go_sem, F]; refine q8 Q45 (sg fun _ Q46 => ?_); obtain ⟨F, h⟩ := bG F h; simp only [go_sem, F]; refine q8 Q46 (sM ?_); refine q0a ?_; simp only [go_sem]; refine q5v [] [(0, .box [.v (.int .i64 v_0.2.r.K), .v (.int .i64 v_0.2.r.V), .osl 4 1 (0) (Xa (i64.wrap ((v_0.2.stack.length : Int) - 2))), .osl 5 2 (0) (v_0.2.out.length), .v (.int .i64 v_0.2.at_), .v (.int .i64 v_0.2.bad)]), (3, .box (Row.row xv_0)), (4, .arr 1 (enc v_0.2.stack)), (5, .arr 2 (enc v_0.2.out))] 6 (.osl 4 1 (Xa (i64.wrap ((v_0.2.stack.length : Int) - 2))) (Xa (v_0.2.stack.length : Int) - Xa (i64.wrap ((v_0.2.stack.length : Int) - 2)))) ?_ ?_
      . exact leA
      refine q76 ?_; simp only [go_sem]; refine q8 Q37 (sg fun _ Q48 => ?_); obtain ⟨F, h⟩ := bG F h; simp only [go_sem, F]; refine ai ?_; refine q8 Q48 (jj8 ?_); refine sg fun _ Q49 => ?_; refine q0e ?_; refine je2 ?_; obtain ⟨xv_4, ex4, h⟩ := z8 h; obtain ⟨f4a, f4b, f4c, fxv_4d⟩ := qi3 ex4; simp only [Xj, Xl, Xc, Xv] at f4c fxv_4d; obtain ⟨xv_5, ex5, h⟩ := z8 h; obtain ⟨f5a, f5b, f5c, fxv_5d⟩ := qi3 ex5; simp only [Xj, Xl, Xc, Xv] at f5c fxv_5d; obtain ⟨v_1, ev_1, h⟩ := z8 h; simp only [go_sem, f4a, f4b, f4c, fxv_4d, f5a, f5b, f5c, fxv_5d]; refine ai ?_; refine ai ?_; refine callq (fun _ => (zg1 xv_0.Op xv_4 xv_5 v_1 ev_1)) (by rfl) (by rfl) ?_; simp only [go_sem]; refine q8 Q49 (sM ?_); obtain ⟨v_2, ev_2, h⟩ := z8 h; simp only [go_sem]; refine qa9 [] ([], [(0, .box [.v (.int .i64 v_0.2.r.K), .v (.int .i64 v_0.2.r.V), .osl 4 1 (0) (Xf (Xb (Xa (i64.wrap ((v_0.2.stack.length : Int) - 2))) v_0.2.stack)), .osl 5 2 (0) (v_0.2.out.length), .v (.int .i64 v_0.2.at_), .v (.int .i64 v_1.2)]), (3, .box (Row.row xv_0)), (4, .arr 1 (enc (Xb (Xa (i64.wrap ((v_0.2.stack.length : Int) - 2))) v_0.2.stack))), (5, .arr 2 (enc v_0.2.out))]) 6 [some 3, some 4, some 5] [.ptr 0 0, .v (.int .i64 v_1.1)] ?_; refine q1r [0, 4, 5] (q0n (⟨v_0.2.r, (Xb (Xa (i64.wrap ((v_0.2.stack.length : Int) - 2))) v_0.2.stack), v_0.2.out, v_0.2.at_, v_1.2⟩ : GProg_machine) v_1.1 v_2 ev_2) ?_; simp only [go_sem]; exact au
def q8u (rv_0 : GRec) (b_8 : Int) (b_9 : Int) (b_10 : Int) (b_11 : Int) (a_4 : List Int) (a_5 : List GRec) : Option ((List GRec) × Int) :=
 (if (!(b_11 == 0)) = true then some (([(⟨rv_0.K, i64.wrap ((-9223372036854775808) + b_11)⟩ : GRec)] : List GRec), b_11)
 else some (a_5, 0))
def qx5 (p_0 : List GIns) (rv_0 : GRec) (rec_2 : Int × Int × Int × Int × Int × (List Int) × (List GRec) -> Option ((List GRec) × Int)) : Int × Int × Int × Int × Int × (List Int) × (List GRec) -> Option ((List GRec) × Int) :=
 fun (fuel_3, b_16, b_17, b_18, b_19, a_8, a_9) =>
 (if ((decide (b_18 < (p_0.length : Int))) && (b_19 == 0)) = true then (if (fuel_3 == 0) = true then q8u rv_0 b_16 b_17 b_18 4 a_8 a_9
 else q9 (idx p_0 b_18) (fun xv_5 =>
 q9 (q2e (⟨(⟨b_16, b_17⟩ : GRec), a_8, a_9, b_18, b_19⟩ : GProg_machine) xv_5) (fun v_6 =>
 rec_2 (i64.wrap (fuel_3 - 1), v_6.r.K, v_6.r.V, v_6.at_, v_6.bad, v_6.stack, v_6.out))))
 else q8u rv_0 b_16 b_17 b_18 b_19 a_8 a_9)
def qs0 (p_0 : List GIns) (rv_0 : GRec) : Option ((List GRec) × Int) :=
 q9 (q71 p_0) (fun v_0 =>
 (if (!v_0) = true then some (([] : List GRec), 0)
 else q04 (qx5 p_0 rv_0) rounds (256, rv_0.K, rv_0.V, 0, 0, [], [])))
instance j8v (p_0 : List GIns) (rv_0 : GRec) : Ct pp 149 (qs0 p_0 rv_0) [.sl 2 (enc p_0), .agg (Row.row rv_0)] fun r => (.tup [.sl 2 (enc r.1), .v (.int .i64 r.2)]) := ctK Tryz.func149 rfl (by rw [qs0]) (by
 intro r h F; refine sM ?_; refine sg fun _ Q2 => ?_; refine sg fun _ Q3 => ?_; simp only [go_sem]; refine q53 h fun v_0 h => ?_; simp only [go_sem]; refine q8 Q3 (sB h (fun _ h => ?_) fun _ h => ?_)
 . exact au
 .
  refine y9 (q8 Q2 (sM ?_)); refine q5r (fun ((b_8, b_9, b_10, b_11, a_4, a_5) : Int × Int × Int × Int × (List Int) × (List GRec)) => q8u rv_0 b_8 b_9 b_10 b_11 a_4 a_5 = some r) [3, 6] (fun x => ([], [(0, .box (Row.row rv_0)), (1, .box [.v (.int .i64 x.1), .v (.int .i64 x.2.1), .osl 2 1 (0) (x.2.2.2.2.1.length), .osl 3 2 (0) (x.2.2.2.2.2.length), .v (.int .i64 x.2.2.1), .v (.int .i64 x.2.2.2.1)]), (2, .arr 1 (enc x.2.2.2.2.1)), (3, .arr 2 (enc x.2.2.2.2.2))])) 4 ?_ ?_
  .
   intro _ Q10; refine sM ?_; refine w9 fun _ Q12 => ?_; refine q12 h [0, 3, 6] (fun x => ([(7, .v (.int .i64 x.1))], [(0, .box (Row.row rv_0)), (1, .box [.v (.int .i64 x.2.1), .v (.int .i64 x.2.2.1), .osl 2 1 (0) (x.2.2.2.2.2.1.length), .osl 3 2 (0) (x.2.2.2.2.2.2.length), .v (.int .i64 x.2.2.2.1), .v (.int .i64 x.2.2.2.2.1)]), (2, .arr 1 (enc x.2.2.2.2.2.1)), (3, .arr 2 (enc x.2.2.2.2.2.2))])) 4 ?_; rintro m_2 ⟨fuel_3, b_16, b_17, b_18, b_19, a_8, a_9⟩ h _ Q13; rw [qx5] at h; refine sg fun _ Q14 => ?_; refine sM ?_; refine sB h (fun _ h => ?_) fun _ h => ?_
   .
    refine y9 (q8 Q14 (sg fun _ Q16 => ?_)); refine w9 fun _ Q17 => ?_; refine sg fun _ Q18 => ?_; refine sM ?_; refine sB h (fun _ h => ?_) fun _ h => ?_
    . exact au
    . refine y9 (q8 Q18 ?_); obtain ⟨xv_5, F, h⟩ := bI F h; obtain ⟨v_6, ev_6, h⟩ := z8 h; simp only [go_sem, F]; refine ai ?_; refine q1r [1, 2, 3] (qj5 (⟨(⟨b_16, b_17⟩ : GRec), a_8, a_9, b_18, b_19⟩ : GProg_machine) xv_5 v_6 ev_6) ?_; simp only [go_sem]; exact au
   . exact au
  .
   rintro ⟨b_8, b_9, b_10, b_11, a_4, a_5⟩ h
   try dsimp only at h
   rw [q8u] at h; refine sg fun _ Q6 => ?_; refine sM ?_; refine sB h (fun _ h => ?_) fun _ h => ?_
   .
    refine sg fun _ Q8 => ?_; refine q0e ?_; refine je2 ?_; have rf_0 : [[.v (.int .i64 rv_0.K), .v (.int .i64 (i64.wrap ((-9223372036854775808) + b_11)))]] = enc ([(⟨rv_0.K, i64.wrap ((-9223372036854775808) + b_11)⟩ : GRec)] : List GRec) := by rfl
    simp only [go_sem]; simp only [rf_0]; exact au
   . exact au)
def qv7 (k_0 : Int) : Option GRec :=
 some (⟨k_0, -9223372036854775806⟩ : GRec)
instance j83 (k_0 : Int) : Ct pp 150 (qv7 k_0) [.v (.int .i64 k_0)] fun r => (.agg (Row.row r)) := ctI Tryz.func150 rfl (by rw [qv7]; exact au1)
def qs1 (k_0 : Int) (a_0 : Int) (b_0 : Int) : Option GRec :=
 (if (((decide (a_0 < 0)) == (decide (b_0 < 0))) && (!((decide ((i64.wrap (a_0 + b_0)) < 0)) == (decide (a_0 < 0))))) = true then q9 (qv7 k_0) (fun v_0 =>
 some v_0)
 else some (⟨k_0, i64.wrap (a_0 + b_0)⟩ : GRec))
instance j8w (k_0 : Int) (a_0 : Int) (b_0 : Int) : Ct pp 137 (qs1 k_0 a_0 b_0) [.v (.int .i64 k_0), .v (.int .i64 a_0), .v (.int .i64 b_0)] fun r => (.agg (Row.row r)) := ctI Tryz.func137 rfl (by rw [qs1]; exact au1)
def q72 (xv_0 : GNode) (rv_0 : GRec) : Option (List GRec) :=
 (if (xv_0.Kind == 2) = true then q9 (qs0 xv_0.Prog rv_0) (fun v_0 =>
 some v_0.1)
 else (if (xv_0.Kind == 3) = true then q9 (qs1 rv_0.K rv_0.V xv_0.Arg) (fun v_1 =>
 some ([v_1] : List GRec))
 else (if (xv_0.Kind == 4) = true then (if (decide (xv_0.Arg < 1)) = true then some ([] : List GRec)
 else q02 (xv_0.Arg ≠ 0) (
 (if (!((Int.tmod rv_0.V xv_0.Arg) == 0)) = true then some ([] : List GRec)
 else some ([rv_0] : List GRec))))
 else some ([rv_0] : List GRec))))
instance j6k (xv_0 : GNode) (rv_0 : GRec) : Ct pp 134 (q72 xv_0 rv_0) [.agg (Row.row xv_0), .agg (Row.row rv_0)] fun r => (.sl 2 (enc r)) := ctK Tryz.func134 rfl (by rw [q72]) (by
 intro r h F; refine sM ?_; refine jg fun _ Q2 => ?_; refine sM ?_; refine w9 fun _ Q4 => ?_; refine sM ?_; refine sB h (fun _ h => ?_) fun _ h => ?_
 . exact au
 .
  refine sM ?_; refine sB h (fun _ h => ?_) fun _ h => ?_
  .
   refine sg fun _ Q9 => ?_; simp only [go_sem]; refine q53 h fun v_1 h => ?_; have rf_0 : [[.v (.int .i64 v_1.K), .v (.int .i64 v_1.V)]] = enc ([v_1] : List GRec) := by rfl
   simp only [go_sem]; simp only [rf_0]; exact au
  .
   refine sM ?_; refine sB h (fun _ h => ?_) fun _ h => ?_
   .
    refine sg fun _ Q11 => ?_; simp only [go_sem]; rcases hb_3 : (decide (xv_0.Arg < 1)) with _ | _
    .
     replace h := q4e h hb_3; obtain ⟨F, h⟩ := bG F h; simp only [go_sem, hb_3, F]; refine q8 Q11 (sB h (fun _ h => ?_) fun _ h => ?_)
     . exact au
     .
      refine y9 (q05 Q4 (q8 Q2 (sg fun _ Q13 => ?_))); have rf_1 : [[.v (.int .i64 rv_0.K), .v (.int .i64 rv_0.V)]] = enc ([rv_0] : List GRec) := by rfl
      simp only [go_sem]; simp only [rf_1]; exact au
    . replace h := q4d h hb_3; simp only [go_sem, hb_3]; exact au
   .
    refine y9 (q05 Q4 (q8 Q2 (sg fun _ Q15 => ?_))); have rf_2 : [[.v (.int .i64 rv_0.K), .v (.int .i64 rv_0.V)]] = enc ([rv_0] : List GRec) := by rfl
    simp only [go_sem]; simp only [rf_2]; exact au)
def q4r (mv_0 : GOps_maker) (rv_0 : GRec) (nv_0 : Int) : Option (Bool × GOps_maker) :=
 (if (decide ((i64.wrap (65536 - mv_0.many)) < nv_0)) = true then some (false, mv_0)
 else q02 ((mv_0.out.length + Xf ([(⟨rv_0, nv_0⟩ : GItem)] : List GItem)) * 24 <= 140737488355328) (
 some (true, (⟨(mv_0.out ++ ([(⟨rv_0, nv_0⟩ : GItem)] : List GItem)), i64.wrap (mv_0.many + nv_0)⟩ : GOps_maker))))
theorem qw5 (mv_0 : GOps_maker) (rv_0 : GRec) (nv_0 : Int)  (r : Bool × GOps_maker) (h : q4r mv_0 rv_0 nv_0 = some r) : DetS pp 113 [.ptr 0 0, .agg (Row.row rv_0), .v (.int .i64 nv_0)] [(0, .box [.osl 1 3 (0) (mv_0.out.length), .v (.int .i64 mv_0.many)]), (1, .arr 3 (enc mv_0.out))] 2 (.v (.bool r.1)) [(0, .box [.osl 2 3 (0) (r.2.out.length), .v (.int .i64 r.2.many)]), (2, .arr 3 (enc r.2.out))] 3 := by
 refine dtI Tryz.func113 rfl ?_; rw [q4r] at h; have F := trivial; refine sM ?_; refine sg fun _ Q2 => ?_; refine sM ?_; refine sB h (fun _ h => ?_) fun _ h => ?_
 . exact au
 .
  refine y9 (q8 Q2 (sM ?_)); refine sg fun _ Q6 => ?_; refine q0e ?_; refine q3i 10 0 0 [0, 0, 2, 6, 14, 0, 0, 96, 224, 510, 1023, 2047, 4095] [1, 3] [0] [] [9] [] mixed (by kernel_rfl) (of_decide_eq_true (by kernel_rfl)) (by kernel_rfl) (by kernel_rfl) (by rfl) ?_; have rf_0 : [[.v (.int .i64 rv_0.K), .v (.int .i64 rv_0.V), .v (.int .i64 nv_0)]] = enc ([(⟨rv_0, nv_0⟩ : GItem)] : List GItem) := by rfl
  obtain ⟨g_0, h⟩ := q0j h; have F := Xh F g_0; simp only [Xe, Xg, Xc, Xm] at g_0; have rf_1 : enc mv_0.out ++ [[.v (.int .i64 rv_0.K), .v (.int .i64 rv_0.V), .v (.int .i64 nv_0)]] = enc (mv_0.out ++ ([(⟨rv_0, nv_0⟩ : GItem)] : List GItem)) := by exact (q57 mv_0.out ([(⟨rv_0, nv_0⟩ : GItem)] : List GItem)).symm
  simp only [go_sem, g_0, rf_1]; simp only [rf_0]; exact au
def q46 (t13_1 : Int) (rec_1 : (Int × Int × (List GItem) -> Option (Bool × GOps_maker))) (xv_9 : GItem) (v_8 : List GRec) (rec_2 : Int × Int × (List GItem) -> Option (Bool × GOps_maker)) : Int × Int × (List GItem) -> Option (Bool × GOps_maker) :=
 fun (t22_5, b_8, a_7) =>
 (if (decide (t22_5 < (v_8.length : Int))) = true then q9 (idx v_8 t22_5) (fun xv_12 =>
 q9 (q4r (⟨a_7, b_8⟩ : GOps_maker) xv_12 xv_9.N) (fun v_11 =>
 (if (!v_11.1) = true then some (false, v_11.2)
 else rec_2 (i64.wrap (t22_5 + 1), v_11.2.many, v_11.2.out))))
 else rec_1 (i64.wrap (t13_1 + 1), b_8, a_7))
def q47 (xv_0 : GNode) (b_0 : List GItem) (rec_1 : Int × Int × (List GItem) -> Option (Bool × GOps_maker)) : Int × Int × (List GItem) -> Option (Bool × GOps_maker) :=
 fun (t13_1, b_6, a_5) =>
 (if (decide (t13_1 < (b_0.length : Int))) = true then q9 (idx b_0 t13_1) (fun xv_9 =>
 q9 (q72 xv_0 xv_9.Rec) (fun v_8 =>
 q04 (q46 t13_1 rec_1 xv_9 v_8) rounds (0, b_6, a_5)))
 else some (true, (⟨a_5, b_6⟩ : GOps_maker)))
def q25 (mv_0 : GOps_maker) (xv_0 : GNode) (b_0 : List GItem) : Option (Bool × GOps_maker) :=
 q04 (q47 xv_0 b_0) rounds (0, mv_0.many, mv_0.out)
theorem q5x (mv_0 : GOps_maker) (xv_0 : GNode) (b_0 : List GItem)  (r : Bool × GOps_maker) (h : q25 mv_0 xv_0 b_0 = some r) : DetS pp 112 [.ptr 0 0, .agg (Row.row xv_0), .sl 3 (enc b_0)] [(0, .box [.osl 1 3 (0) (mv_0.out.length), .v (.int .i64 mv_0.many)]), (1, .arr 3 (enc mv_0.out))] 2 (.v (.bool r.1)) [(0, .box [.osl 2 3 (0) (r.2.out.length), .v (.int .i64 r.2.many)]), (2, .arr 3 (enc r.2.out))] 3 := by
 refine dtI Tryz.func112 rfl ?_; rw [q25] at h; have F := trivial; refine sM ?_; refine jg fun _ Q2 => ?_; refine sM ?_; refine w9 fun _ Q4 => ?_; refine q12 h [0, 4, 11, 12] (fun x => ([(13, .v (.int .i64 x.1))], [(0, .box [.osl 3 3 (0) (x.2.2.length), .v (.int .i64 x.2.1)]), (2, .box (Row.row xv_0)), (3, .arr 3 (enc x.2.2))])) 4 ?_; rintro m_1 ⟨t13_1, b_6, a_5⟩ h _ Q5; rw [q47] at h; refine sM ?_; refine sg fun _ Q7 => ?_; refine sB h (fun _ h => ?_) fun _ h => ?_
 .
  refine y9 (q8 Q7 (jg fun _ Q8 => ?_)); refine w9 fun _ Q9 => ?_; refine sg fun _ Q10 => ?_; obtain ⟨xv_9, F, h⟩ := bI F h; simp only [go_sem, F]; refine ai ?_; refine q8 Q10 (sg fun _ Q11 => ?_); simp only [go_sem]; refine q53 h fun v_8 h => ?_; simp only [go_sem]; refine q8 Q11 (w9 fun _ Q12 => ?_); refine q12 h [0, 4, 11, 12, 13, 20, 21] (fun x => ([(8, .ptr 3 0), (22, .v (.int .i64 x.1))], [(0, .box [.osl 4 3 (0) (x.2.2.length), .v (.int .i64 x.2.1)]), (2, .box (Row.row xv_0)), (3, .box (Row.row xv_9)), (4, .arr 3 (enc x.2.2))])) 5 ?_; rintro m_2 ⟨t22_5, b_8, a_7⟩ h _ Q13; rw [q46] at h; refine sM ?_; refine sg fun _ Q15 => ?_; refine sB h (fun _ h => ?_) fun _ h => ?_
  . refine y9 (q8 Q15 (sg fun _ Q16 => ?_)); refine w9 fun _ Q17 => ?_; refine sg fun _ Q18 => ?_; obtain ⟨xv_12, F, h⟩ := bI F h; simp only [go_sem, F]; refine ai ?_; refine q8 Q18 (sg fun _ Q19 => ?_); obtain ⟨v_11, ev_11, h⟩ := z8 h; simp only [go_sem]; refine q1r [0, 4] (qw5 (⟨a_7, b_8⟩ : GOps_maker) xv_12 xv_9.N v_11 ev_11) ?_; simp only [go_sem]; exact au
  . exact au
 . exact au
def q52 (mv_0 : GOps_maker) (rec_1 : Int × (List GItem) -> Option ((List GItem) × GOps_maker)) : Int × (List GItem) -> Option ((List GItem) × GOps_maker) :=
 fun (t11_1, a_1) =>
 (if (decide (t11_1 < (mv_0.out.length : Int))) = true then q9 (idx mv_0.out t11_1) (fun xv_2 =>
 q9 (qw7 a_1 xv_2.Rec xv_2.N) (fun v_2 =>
 rec_1 (i64.wrap (t11_1 + 1), v_2)))
 else some (a_1, mv_0))
def q4j (mv_0 : GOps_maker) : Option ((List GItem) × GOps_maker) :=
 q04 (q52 mv_0) rounds (0, [])
theorem qu6 (mv_0 : GOps_maker)  (r : (List GItem) × GOps_maker) (h : q4j mv_0 = some r) : DetS pp 116 [.ptr 0 0] [(0, .box [.osl 1 3 (0) (mv_0.out.length), .v (.int .i64 mv_0.many)]), (1, .arr 3 (enc mv_0.out))] 2 (.osl 2 3 (0) (r.1.length)) [(0, .box [.osl 3 3 (0) (r.2.out.length), .v (.int .i64 r.2.many)]), (2, .arr 3 (enc r.1)), (3, .arr 3 (enc r.2.out))] 4 := by
 refine dtI Tryz.func116 rfl ?_; rw [q4j] at h; have F := trivial; refine sM ?_; refine sM ?_; refine jg fun _ Q3 => ?_; refine sM ?_; refine w9 fun _ Q5 => ?_; refine q12 h [9, 10] (fun x => ([(3, .osl 2 3 (0) (x.2.length)), (11, .v (.int .i64 x.1))], [(0, .box [.osl 1 3 (0) (mv_0.out.length), .v (.int .i64 mv_0.many)]), (1, .arr 3 (enc mv_0.out)), (2, .arr 3 (enc x.2))])) 3 ?_; rintro m_1 ⟨t11_1, a_1⟩ h _ Q6; rw [q52] at h; refine sM ?_; refine sg fun _ Q8 => ?_; refine sB h (fun _ h => ?_) fun _ h => ?_
 . refine y9 (q8 Q8 (sg fun _ Q9 => ?_)); refine w9 fun _ Q10 => ?_; refine sg fun _ Q11 => ?_; obtain ⟨xv_2, F, h⟩ := bI F h; simp only [go_sem, F]; refine ai ?_; refine q8 Q11 ?_; obtain ⟨v_2, ev_2, h⟩ := z8 h; simp only [go_sem]; refine qa9 [9, 10, 11] ([(3, .sl 3 (enc a_1))], [(0, .box [.osl 1 3 (0) (mv_0.out.length), .v (.int .i64 mv_0.many)]), (1, .arr 3 (enc mv_0.out)), (2, .box (Row.row xv_2))]) 3 [some 3] [.sl 3 (enc a_1), .agg (Row.row xv_2.Rec), .v (.int .i64 xv_2.N)] ?_; refine q1r [] (zg2 a_1 xv_2.Rec xv_2.N v_2 ev_2) ?_; simp only [go_sem]; exact au
 . exact au
def q4k (nv_0 : Int) (cap_0 : List (List GItem)) : Option (List GItem) :=
 (if (decide ((cap_0.length : Int) <= nv_0)) = true then some ([] : List GItem)
 else q9 (idx cap_0 nv_0) (fun xv_0 =>
 q9 (qg2 xv_0) (fun v_0 =>
 some v_0)))
theorem qy0 (nv_0 : Int) (cap_0 : List (List GItem))  (r : List GItem) (h : q4k nv_0 cap_0 = some r) : DetS pp 110 [.v (.int .i64 nv_0), .el 1 [[.sl 1 (enc cap_0)]] 0 0] [] 0 (.osl 0 3 (0) (r.length)) [(0, .arr 3 (enc r))] 1 := by
 refine dtI Tryz.func110 rfl ?_; rw [q4k] at h; have F := trivial; refine sM ?_; refine sg fun _ Q2 => ?_; refine sM ?_; refine sB h (fun _ h => ?_) fun _ h => ?_
 . exact au
 . refine y9 (q8 Q2 (sg fun _ Q5 => ?_)); obtain ⟨xv_0, F, h⟩ := bI F h; obtain ⟨v_0, ev_0, h⟩ := z8 h; simp only [go_sem, F]; refine ai ?_; refine q1r [] (z11 xv_0 v_0 ev_0) ?_; simp only [go_sem]; exact au
def q1h (t4_0 : Bool) : Option Bool :=
 (if t4_0 = true then some true
 else some false)
def q5b (kind_0 : Int) : Option Bool :=
 (if (kind_0 == 1) = true then q1h (kind_0 == 1)
 else (if (kind_0 == 2) = true then q1h (kind_0 == 2)
 else (if (kind_0 == 3) = true then q1h (kind_0 == 3)
 else (if (kind_0 == 4) = true then q1h (kind_0 == 4)
 else (if (kind_0 == 5) = true then q1h (kind_0 == 5)
 else (if (kind_0 == 10) = true then q1h (kind_0 == 10)
 else (if (kind_0 == 11) = true then q1h (kind_0 == 11)
 else (if (kind_0 == 12) = true then q1h (kind_0 == 12)
 else (if (kind_0 == 13) = true then q1h (kind_0 == 13)
 else q1h (kind_0 == 15))))))))))
instance j6l (kind_0 : Int) : Ct pp 14 (q5b kind_0) [.v (.int .i64 kind_0)] fun r => (.v (.bool r)) := ctK Tryz.func14 rfl (by rw [q5b]) (by
 intro r h F; refine sM ?_; refine jg fun _ Q2 => ?_; refine sM ?_; refine w9 fun _ Q4 => ?_; refine q5r (fun (t4_0 : Bool) => q1h t4_0 = some r) [] (fun t4_0 => ([(4, .v (.bool t4_0))], [])) 0 ?_ ?_
 . intro _ Q7; exact au
 .
  rintro t4_0 h
  try dsimp only at h
  rw [q1h] at h; exact au)
def q37 (ok_0 : Bool) (b_0 : Int) (a_0 : List GItem) : Option ((List GItem) × Bool) :=
 (if (!ok_0) = true then some (([] : List GItem), false)
 else q9 (q4j (⟨a_0, b_0⟩ : GOps_maker)) (fun v_6 =>
 some (v_6.1, true)))
def z2a (v_0 : List GItem) (rec_2 : Unit -> Option ((List GItem) × Bool)) : Unit -> Option ((List GItem) × Bool) :=
 fun _ =>
 (if (decide (0 < (v_0.length : Int))) = true then q9 (idx v_0 0) (fun xv_4 =>
 none)
 else q37 true 0 ([]))
def q7s (xv_0 : GNode) (ports_0 : List (List GItem)) : Option ((List GItem) × Bool) :=
 q9 (q4k 0 ports_0) (fun v_0 =>
 q9 (q4k 1 ports_0) (fun v_1 =>
 (if (xv_0.Kind == 5) = true then q9 (q25 (⟨([] : List GItem), 0⟩ : GOps_maker) xv_0 v_0) (fun v_7 =>
 (if v_7.1 = true then q9 (q25 v_7.2 xv_0 v_1) (fun v_8 =>
 q37 v_8.1 v_8.2.many v_8.2.out)
 else q37 false v_7.2.many v_7.2.out))
 else q9 (q5b xv_0.Kind) (fun v_9 =>
 (if v_9 = true then q9 (q25 (⟨([] : List GItem), 0⟩ : GOps_maker) xv_0 v_0) (fun v_10 =>
 q37 v_10.1 v_10.2.many v_10.2.out)
 else (if (xv_0.Kind == 8) = true then q04 (z2a v_0) rounds ()
 else (if (xv_0.Kind == 9) = true then none
 else (if (((xv_0.Kind == 7) || (xv_0.Kind == 6)) || (xv_0.Kind == 14)) = true then none
 else q37 true 0 ([])))))))))
theorem z8v (xv_0 : GNode) (ports_0 : List (List GItem))  (r : (List GItem) × Bool) (h : q7s xv_0 ports_0 = some r) : DetS pp 73 [.agg (Row.row xv_0), .sl 1 (enc ports_0)] [] 0 (.tup [.osl 0 3 (0) (r.1.length), .v (.bool r.2)]) [(0, .arr 3 (enc r.1))] 1 := by
 refine dtI Tryz.func73 rfl ?_; rw [q7s] at h; have F := trivial; refine sM ?_; refine sM ?_; refine sM ?_; refine sg fun _ Q4 => ?_; obtain ⟨v_0, ev_0, h⟩ := z8 h; simp only [go_sem]; refine qa9 [2] ([(6, .clo 110 [.el 1 [[.sl 1 (enc ports_0)]] 0 0]), (7, .ptr 1 0)], [(0, .box (Row.row xv_0)), (1, .box [.v (.slice none 0 0), .v (.int .i64 0)])]) 2 [some 0, some 2] [.v (.int .i64 0), .el 1 [[.sl 1 (enc ports_0)]] 0 0] ?_; refine q1r [] (qy0 0 ports_0 v_0 ev_0) ?_; obtain ⟨v_1, ev_1, h⟩ := z8 h; simp only [go_sem]; refine q1r [] (qy0 1 ports_0 v_1 ev_1) ?_; simp only [go_sem]; refine q8 Q4 (sM ?_); refine q5r (fun ((ok_0, b_0, a_0) : Bool × Int × (List GItem)) => q37 ok_0 b_0 a_0 = some r) [] (fun x => ([(7, .ptr 0 0), (10, .v (.bool x.1))], [(0, .box [.osl 1 3 (0) (x.2.2.length), .v (.int .i64 x.2.1)]), (1, .arr 3 (enc x.2.2))])) 2 ?_ ?_
 .
  intro _ Q10; refine w9 fun _ Q11 => ?_; refine sM ?_; refine sB h (fun _ h => ?_) fun _ h => ?_
  .
   obtain ⟨v_7, ev_7, h⟩ := z8 h; simp only [go_sem]; refine qa9 [2, 7, 10] ([(9, .osl 2 3 (0) (v_1.length))], [(0, .box (Row.row xv_0)), (1, .box [.osl 3 3 (0) (Xf ([] : List GItem)), .v (.int .i64 0)]), (2, .arr 3 (enc v_1)), (3, .arr 3 (enc ([] : List GItem)))]) 4 [some 0, some 1, some 3, none] [.ptr 1 0, .agg (Row.row xv_0), .sl 3 (enc v_0)] ?_; refine q1r [1, 3] (q5x (⟨([] : List GItem), 0⟩ : GOps_maker) xv_0 v_0 v_7 ev_7) ?_; simp only [go_sem]; rcases hb_10 : v_7.1 with _ | _
   . replace h := q4e h hb_10; simp only [go_sem, hb_10]; exact au
   . replace h := q4d h hb_10; obtain ⟨v_8, ev_8, h⟩ := z8 h; simp only [go_sem, hb_10]; refine qa9 [7, 10, 28] ([], [(0, .box (Row.row xv_0)), (1, .box [.osl 2 3 (0) (v_7.2.out.length), .v (.int .i64 v_7.2.many)]), (2, .arr 3 (enc v_7.2.out))]) 3 [some 0, some 1, some 4] [.ptr 1 0, .agg (Row.row xv_0), .sl 3 (enc v_1)] ?_; refine q1r [1, 2] (q5x v_7.2 xv_0 v_1 v_8 ev_8) ?_; simp only [go_sem]; exact au
  .
   refine sg fun _ Q13 => ?_; simp only [go_sem]; refine q53 h fun v_9 h => ?_; simp only [go_sem]; refine q8 Q13 (sB h (fun _ h => ?_) fun _ h => ?_)
   . obtain ⟨v_10, ev_10, h⟩ := z8 h; simp only [go_sem]; refine qa9 [7, 10] ([], [(0, .box (Row.row xv_0)), (1, .box [.osl 3 3 (0) (Xf ([] : List GItem)), .v (.int .i64 0)]), (2, .arr 3 (enc v_1)), (3, .arr 3 (enc ([] : List GItem)))]) 4 [some 0, some 1, some 3, none] [.ptr 1 0, .agg (Row.row xv_0), .sl 3 (enc v_0)] ?_; refine q1r [1, 3] (q5x (⟨([] : List GItem), 0⟩ : GOps_maker) xv_0 v_0 v_10 ev_10) ?_; simp only [go_sem]; exact au
   .
    refine sM ?_; refine sB h (fun _ h => ?_) fun _ h => ?_
    .
     refine sM ?_; refine w9 fun _ Q16 => ?_; refine q12 h [10, 47, 48] (fun _ => ([(7, .ptr 0 0), (46, .osl 1 3 (0) (v_0.length))], [(0, .box [.v (.slice none 0 0), .v (.int .i64 0)]), (1, .arr 3 (enc v_0))])) 2 ?_; rintro m_2 ⟨⟩ h _ Q17; rw [z2a] at h; refine sM ?_; refine sg fun _ Q19 => ?_; refine sB h (fun _ h => ?_) fun _ h => ?_
     . refine y9 (q8 Q19 (sg fun _ Q20 => ?_)); refine w9 fun _ Q21 => ?_; refine sg fun _ Q22 => ?_; obtain ⟨xv_4, F, h⟩ := bI F h; simp only [Xj, Xl] at F; simp only [go_sem, F]; refine ai ?_; refine q8 Q22 ?_; exact absurd h (by simp)
     . exact au
    .
     refine sM ?_; refine sB h (fun _ h => ?_) fun _ h => ?_
     . exact absurd h (by simp)
     .
      refine sM ?_; refine sB h (fun _ h => ?_) fun _ h => ?_
      . exact absurd h (by simp)
      . exact au
 .
  rintro ⟨ok_0, b_0, a_0⟩ h
  try dsimp only at h
  rw [q37] at h; refine sg fun _ Q6 => ?_; refine sM ?_; refine sB h (fun _ h => ?_) fun _ h => ?_
  . exact au
  . refine y9 (q8 Q6 (sg fun _ Q9 => ?_)); obtain ⟨v_6, ev_6, h⟩ := z8 h; simp only [go_sem]; refine q1r [0, 1] (qu6 (⟨a_0, b_0⟩ : GOps_maker) v_6 ev_6) ?_; simp only [go_sem]; exact au
def qh0 (xv_0 : Int) (y_0 : Int) : Option (Int × Int) :=
 q9 (q4x xv_0 y_0) (fun v_0 =>
 some (v_0.1, v_0.2))
instance j2w (xv_0 : Int) (y_0 : Int) : Ct pp 142 (qh0 xv_0 y_0) [.v (.int .u64 xv_0), .v (.int .u64 y_0)] fun r => (.tup [.v (.int .u64 r.1), .v (.int .u64 r.2)]) := ctI Tryz.func142 rfl (by rw [qh0]; exact au1)
def q9h  (rec_3 : Int × (List GRec) -> Option (List GRec)) : Int × (List GRec) -> Option (List GRec) :=
 fun (nv_1, a_1) =>
 (if (decide (nv_1 < (a_1.length : Int))) = true then q02 (0 <= nv_1 /\ nv_1 <= (a_1.length : Int) /\ (a_1.length : Int) <= (a_1.length : Int)) (
 q02 (0 <= 0 /\ 0 <= nv_1 /\ nv_1 <= (a_1.length : Int)) (
 q02 (nv_1.toNat + (a_1.length - nv_1.toNat) <= a_1.length) (
 q02 (0 + nv_1.toNat <= a_1.length) (
 rec_3 (i64.wrap (nv_1 + ((min (Xf (Xb (nv_1.toNat) a_1)) ((a_1.length - nv_1.toNat)) : Nat) : Int)), (Xb (a_1.length) (Xb (nv_1.toNat) a_1 ++ (Xb ((a_1.length - nv_1.toNat)) (Xb (nv_1.toNat) a_1)) ++ Xn (nv_1.toNat + Xf (Xb ((a_1.length - nv_1.toNat)) (Xb (nv_1.toNat) a_1))) a_1)))))))
 else some a_1)
def q6t (xv_0 : List GRec) (v_0 : Int × Int) : Option (List GRec) :=
 q02 (0 <= (i64.wrap v_0.2) /\ (i64.wrap v_0.2) * 16 <= 140737488355328) (
 q02 (0 + (Xa (i64.wrap v_0.2)) <= Xf (Xk (Xa (i64.wrap v_0.2)) (⟨0, 0⟩ : GRec))) (
 q04 (q9h) rounds (((min (xv_0.length) ((Xa (i64.wrap v_0.2))) : Nat) : Int), (Xb (Xa (i64.wrap v_0.2)) ((Xb ((Xa (i64.wrap v_0.2))) xv_0) ++ Xn (Xf (Xb ((Xa (i64.wrap v_0.2))) xv_0)) (Xk (Xa (i64.wrap v_0.2)) (⟨0, 0⟩ : GRec)))))))
def q6u (xv_0 : List GRec) (count_0 : Int) : Option (List GRec) :=
 q9 (qh0 (IntKind.u64.wrap (xv_0.length : Int)) (IntKind.u64.wrap count_0)) (fun v_0 =>
 (if ((decide (0 < v_0.1)) || (decide (9223372036854775807 < v_0.2))) = true then none
 else q6t xv_0 v_0))
def q6f (xv_0 : List GRec) (count_0 : Int) : Option (List GRec) :=
 (if (decide (count_0 < 0)) = true then none
 else q6u xv_0 count_0)
theorem z0r (xv_0 : List GRec) (count_0 : Int)  (r : List GRec) (h : q6f xv_0 count_0 = some r) : DetS pp 117 [.sl 2 (enc xv_0), .v (.int .i64 count_0)] [] 0 (.osl 0 2 (0) (r.length)) [(0, .arr 2 (enc r))] 1 := by
 refine dtI Tryz.func117 rfl ?_; rw [q6f] at h; have F := trivial; refine sM ?_; refine q5r (fun (_ : Unit) => q6u xv_0 count_0 = some r) [0, 1] (fun _ => ([], [])) 0 ?_ ?_
 .
  intro _ Q14; refine sM ?_; refine sB h (fun _ h => ?_) fun _ h => ?_
  . exact absurd h (by simp)
  . exact au
 .
  rintro ⟨⟩ h
  try dsimp only at h
  rw [q6u] at h; refine sg fun _ Q2 => ?_; simp only [go_sem]; refine q53 h fun v_0 h => ?_; simp only [go_sem]; refine q8 Q2 (q5r (fun (_ : Unit) => q6t xv_0 v_0 = some r) [0, 6] (fun _ => ([], [])) 0 ?_ ?_)
  .
   intro _ Q12; refine sM ?_; refine sB h (fun _ h => ?_) fun _ h => ?_
   . exact absurd h (by simp)
   . exact au
  .
   rintro ⟨⟩ h
   try dsimp only at h
   rw [q6t] at h; refine sg fun _ Q3 => ?_; obtain ⟨F, h⟩ := bG F h; have rf_0 : Xk (Xa (i64.wrap v_0.2)) [.v (.int .i64 0), .v (.int .i64 0)] = enc (Xk (Xa (i64.wrap v_0.2)) (⟨0, 0⟩ : GRec)) := by (simp [enc, z5i, z2o, z09, q6n]; exact .inr rfl)
   simp only [go_sem, F]; simp only [rf_0]; refine q8 Q3 (sg fun _ Q4 => ?_); obtain ⟨g_1, h⟩ := q0j h; have F := Xh F g_1; simp only [Xc] at g_1; have rf_1 : Xb (0) (enc (Xk (Xa (i64.wrap v_0.2)) (⟨0, 0⟩ : GRec))) ++ enc (Xb ((Xa (i64.wrap v_0.2))) xv_0) ++ Xn (0 + Xf (Xb ((Xa (i64.wrap v_0.2))) xv_0)) (enc (Xk (Xa (i64.wrap v_0.2)) (⟨0, 0⟩ : GRec))) = enc ((Xb ((Xa (i64.wrap v_0.2))) xv_0) ++ Xn (Xf (Xb ((Xa (i64.wrap v_0.2))) xv_0)) (Xk (Xa (i64.wrap v_0.2)) (⟨0, 0⟩ : GRec))) := by simp [enc, List.map_take, List.map_drop]
   simp only [Xc, List.take_zero, Xp] at rf_1; simp only [go_sem, g_1, rf_1]; refine q8 Q4 (jg fun _ Q5 => ?_); refine w9 fun _ Q6 => ?_; refine q12 h [] (fun x => ([(7, .osl 0 2 (0) (x.2.length)), (8, .v (.int .i64 x.1))], [(0, .arr 2 (enc x.2))])) 1 ?_; rintro m_3 ⟨nv_1, a_1⟩ h _ Q7; rw [q9h] at h; refine sg fun _ Q8 => ?_; refine sM ?_; refine sB h (fun _ h => ?_) fun _ h => ?_
   .
    refine y9 (q8 Q8 (w9 fun _ Q10 => ?_)); refine q0e ?_; refine q3i 8 0 0 [0, 0, 0, 6, 0, 0, 48, 126, 255, 511] [0] [0] [] [7] [] mixed (by kernel_rfl) (of_decide_eq_true (by kernel_rfl)) (by kernel_rfl) (by kernel_rfl) (by rfl) ?_; obtain ⟨F, h⟩ := bG F h; obtain ⟨F, h⟩ := bG F h; obtain ⟨F, h⟩ := bG F h; obtain ⟨g_13, h⟩ := q0j h; have F := Xh F g_13; simp only [Xc] at g_13; have rf_4 : Xb (nv_1.toNat) (enc a_1) ++ enc (Xb ((a_1.length - nv_1.toNat)) (Xb (nv_1.toNat) a_1)) ++ Xn (nv_1.toNat + Xf (Xb ((a_1.length - nv_1.toNat)) (Xb (nv_1.toNat) a_1))) (enc a_1) = enc (Xb (nv_1.toNat) a_1 ++ (Xb ((a_1.length - nv_1.toNat)) (Xb (nv_1.toNat) a_1)) ++ Xn (nv_1.toNat + Xf (Xb ((a_1.length - nv_1.toNat)) (Xb (nv_1.toNat) a_1))) a_1) := by simp [enc, List.map_take, List.map_drop]
    simp only [go_sem, g_13, rf_4, F]; exact au
   . exact au
def qn6 (v_0 : List GItem) (rec_2 : Int × (List GRec) -> Option ((List GRec) × Bool)) : Int × (List GRec) -> Option ((List GRec) × Bool) :=
 fun (t28_1, a_1) =>
 (if (decide (t28_1 < (v_0.length : Int))) = true then q9 (idx v_0 t28_1) (fun xv_5 =>
 q9 (q6f ([xv_5.Rec] : List GRec) xv_5.N) (fun v_3 =>
 q02 ((a_1.length + v_3.length) * 16 <= 140737488355328) (
 rec_2 (i64.wrap (t28_1 + 1), (a_1 ++ v_3)))))
 else some (a_1, true))
def qn5 (v_0 : List GItem) : Option ((List GRec) × Bool) :=
 q04 (qn6 v_0) rounds (0, [])
def qx6 (v_0 : List GItem) (rec_3 : Int × Int -> Option ((List GRec) × Bool)) : Int × Int -> Option ((List GRec) × Bool) :=
 fun (nv_3, t15_3) =>
 (if (decide (t15_3 < (v_0.length : Int))) = true then q9 (idx v_0 t15_3) (fun xv_8 =>
 (if (decide (65536 < (i64.wrap (nv_3 + xv_8.N)))) = true then some (([] : List GRec), false)
 else rec_3 (i64.wrap (nv_3 + xv_8.N), i64.wrap (t15_3 + 1))))
 else qn5 v_0)
def qs4 (b_0 : List GItem) : Option ((List GRec) × Bool) :=
 q9 (qg2 b_0) (fun v_0 =>
 q04 (qx6 v_0) rounds (0, 0))
theorem z9z (b_0 : List GItem)  (r : (List GRec) × Bool) (h : qs4 b_0 = some r) : DetS pp 74 [.sl 3 (enc b_0)] [] 0 (.tup [.osl 0 2 (0) (r.1.length), .v (.bool r.2)]) [(0, .arr 2 (enc r.1))] 1 := by
 refine dtI Tryz.func74 rfl ?_; rw [qs4] at h; have F := trivial; refine sM ?_; refine sg fun _ Q2 => ?_; obtain ⟨v_0, ev_0, h⟩ := z8 h; simp only [go_sem]; refine q1r [] (z11 b_0 v_0 ev_0) ?_; simp only [go_sem]; refine q8 Q2 (sM ?_); refine q5r (fun (_ : Unit) => qn5 v_0 = some r) [4] (fun _ => ([], [(0, .arr 3 (enc v_0))])) 1 ?_ ?_
 . intro _ Q15; refine sM ?_; refine w9 fun _ Q17 => ?_; refine q12 h [4, 13, 14] (fun x => ([(5, .v (.int .i64 x.1)), (15, .v (.int .i64 x.2))], [(0, .arr 3 (enc v_0))])) 1 ?_; rintro m_3 ⟨nv_3, t15_3⟩ h _ Q18; rw [qx6] at h; exact au
 .
  rintro ⟨⟩ h
  try dsimp only at h
  rw [qn5] at h; refine sM ?_; refine jg fun _ Q5 => ?_; refine sM ?_; refine w9 fun _ Q7 => ?_; refine q12 h [27] (fun x => ([(8, .osl 0 2 (0) (x.2.length)), (26, .osl 1 3 (0) (v_0.length)), (28, .v (.int .i64 x.1))], [(0, .arr 2 (enc x.2)), (1, .arr 3 (enc v_0))])) 2 ?_; rintro m_2 ⟨t28_1, a_1⟩ h _ Q8; rw [qn6] at h; refine sM ?_; refine sg fun _ Q10 => ?_; refine sB h (fun _ h => ?_) fun _ h => ?_
  .
   refine y9 (q8 Q10 (sg fun _ Q11 => ?_)); refine w9 fun _ Q12 => ?_; refine sg fun _ Q13 => ?_; obtain ⟨xv_5, F, h⟩ := bI F h; simp only [go_sem, F]; refine ai ?_; refine q8 Q13 ?_; have rf_3 : [[.v (.int .i64 xv_5.Rec.K), .v (.int .i64 xv_5.Rec.V)]] = enc ([xv_5.Rec] : List GRec) := by rfl
   obtain ⟨v_3, ev_3, h⟩ := z8 h; simp only [go_sem]; simp only [rf_3]; refine qa9 [8, 26, 27, 28, 32] ([], [(0, .arr 2 (enc a_1)), (1, .arr 3 (enc v_0)), (2, .box (Row.row xv_5))]) 3 [some 0, some 1, some 2] [.sl 2 (enc ([xv_5.Rec] : List GRec)), .v (.int .i64 xv_5.N)] ?_; refine q1r [] (z0r ([xv_5.Rec] : List GRec) xv_5.N v_3 ev_3) ?_; obtain ⟨F, h⟩ := bG F h; have rf_4 : enc a_1 ++ enc v_3 = enc (a_1 ++ v_3) := by exact (q57 a_1 v_3).symm
   simp only [go_sem, rf_4, F]; refine Xh (by (intros; simp_all; done)) ?_; exact au
  . exact au
def qk7 (t_0 : GTime) : Option (GTime × Bool) :=
 q9 (q6s t_0) (fun v_0 =>
 (if ((!v_0) || (t_0.D == 1)) = true then some ((⟨0, (⟨0, 0, 0, 0⟩ : Arr4 Int)⟩ : GTime), false)
 else q02 (0 <= i64.wrap (t_0.D - 1) /\ i64.wrap (t_0.D - 1) < 4) (
 q9 (some (if Xa (i64.wrap (t_0.D - 1)) = 0 then 0 else t_0.C.a0)) (fun w_0 =>
 q9 (some (if Xa (i64.wrap (t_0.D - 1)) = 1 then 0 else t_0.C.a1)) (fun w_1 =>
 q9 (some (if Xa (i64.wrap (t_0.D - 1)) = 2 then 0 else t_0.C.a2)) (fun w_2 =>
 q9 (some (if Xa (i64.wrap (t_0.D - 1)) = 3 then 0 else t_0.C.a3)) (fun w_3 =>
 some ((⟨i64.wrap (t_0.D - 1), (⟨w_0, w_1, w_2, w_3⟩ : Arr4 Int)⟩ : GTime), true))))))))
instance j8t (t_0 : GTime) : Ct pp 41 (qk7 t_0) [.agg (Row.row t_0)] fun r => (.tup [.agg (Row.row r.1), .v (.bool r.2)]) := ctK Tryz.func41 rfl (by rw [qk7]) (by
 intro r h F; refine sM ?_; refine sg fun _ Q2 => ?_; refine sg fun _ Q3 => ?_; simp only [go_sem]; refine q53 h fun v_0 h => ?_; simp only [go_sem]; refine q8 Q3 (sB h (fun _ h => ?_) fun _ h => ?_)
 . exact au
 . refine y9 (q8 Q2 (sM ?_)); refine sg fun _ Q6 => ?_; obtain ⟨F, h⟩ := bG F h; obtain ⟨w_0, ew_0, h⟩ := z8 h; obtain ⟨w_1, ew_1, h⟩ := z8 h; obtain ⟨w_2, ew_2, h⟩ := z8 h; obtain ⟨w_3, ew_3, h⟩ := z8 h; have sf_0 := z81 (f := (fun y => AV.v (.int .i64 y))) [.v (.int .i64 (i64.wrap (t_0.D - 1)))] [] [t_0.C.a0, t_0.C.a1, t_0.C.a2, t_0.C.a3] [w_0, w_1, w_2, w_3] (Xa (i64.wrap (t_0.D - 1))) 0 (by simp only [Xe, Xg]; omega) (by simp only [X5, List.mapIdx_nil, Xc, Xq, Xd ew_0, Xd ew_1, Xd ew_2, Xd ew_3]); simp only [Xr, Xp, Xs, Xw, Xz, Xe, Xg, Xc, Xq, q5t, Nat.add_assoc, X0, q6n] at sf_0; simp only [go_sem, sf_0, Xt, F]; refine ai ?_; exact au)
def qk8 (t_0 : GTime) : Option (GTime × Bool) :=
 q9 (q6s t_0) (fun v_0 =>
 (if ((!v_0) || (t_0.D == 4)) = true then some ((⟨0, (⟨0, 0, 0, 0⟩ : Arr4 Int)⟩ : GTime), false)
 else some ((⟨i64.wrap (t_0.D + 1), t_0.C⟩ : GTime), true)))
instance j8u (t_0 : GTime) : Ct pp 69 (qk8 t_0) [.agg (Row.row t_0)] fun r => (.tup [.agg (Row.row r.1), .v (.bool r.2)]) := ctI Tryz.func69 rfl (by rw [qk8]; exact au1)
def qq2 (t_0 : GTime) : Option (GTime × Bool) :=
 q9 (q6s t_0) (fun v_0 =>
 (if v_0 = true then q02 (0 <= i64.wrap (t_0.D - 1) /\ i64.wrap (t_0.D - 1) < 4) (
 q9 (idx ([t_0.C.a0, t_0.C.a1, t_0.C.a2, t_0.C.a3] : List Int) (i64.wrap (t_0.D - 1))) (fun xv_0 =>
 q9 (q8s (i64.wrap (t_0.D - 1))) (fun v_1 =>
 (if (xv_0 == v_1) = true then some ((⟨0, (⟨0, 0, 0, 0⟩ : Arr4 Int)⟩ : GTime), false)
 else q02 (0 <= i64.wrap (t_0.D - 1) /\ i64.wrap (t_0.D - 1) < 4) (
 q9 (idx ([t_0.C.a0, t_0.C.a1, t_0.C.a2, t_0.C.a3] : List Int) (i64.wrap (t_0.D - 1))) (fun xv_1 =>
 q02 (0 <= i64.wrap (t_0.D - 1) /\ i64.wrap (t_0.D - 1) < 4) (
 q9 (some (if Xa (i64.wrap (t_0.D - 1)) = 0 then i64.wrap (xv_1 + 1) else t_0.C.a0)) (fun w_0 =>
 q9 (some (if Xa (i64.wrap (t_0.D - 1)) = 1 then i64.wrap (xv_1 + 1) else t_0.C.a1)) (fun w_1 =>
 q9 (some (if Xa (i64.wrap (t_0.D - 1)) = 2 then i64.wrap (xv_1 + 1) else t_0.C.a2)) (fun w_2 =>
 q9 (some (if Xa (i64.wrap (t_0.D - 1)) = 3 then i64.wrap (xv_1 + 1) else t_0.C.a3)) (fun w_3 =>
 some ((⟨t_0.D, (⟨w_0, w_1, w_2, w_3⟩ : Arr4 Int)⟩ : GTime), true))))))))))))
 else some ((⟨0, (⟨0, 0, 0, 0⟩ : Arr4 Int)⟩ : GTime), false)))
instance j9y (t_0 : GTime) : Ct pp 70 (qq2 t_0) [.agg (Row.row t_0)] fun r => (.tup [.agg (Row.row r.1), .v (.bool r.2)]) := ctK Tryz.func70 rfl (by rw [qq2]) (by
 intro r h F; refine sM ?_; refine sg fun _ Q2 => ?_; refine sg fun _ Q3 => ?_; refine q0e ?_; refine je2 ?_; obtain ⟨v_0, ev_0, h⟩ := z8 h; simp only [go_sem]; refine callq (fun _ => (zg0 t_0 v_0 ev_0)) (by rfl) (by rfl) ?_; simp only [go_sem]; rcases hb_0 : v_0 with _ | _
 . replace h := q4e h hb_0; simp only [go_sem, hb_0]; exact au
 .
  replace h := q4d h hb_0; obtain ⟨F, h⟩ := bG F h; obtain ⟨xv_0, ex0, h⟩ := z8 h; obtain ⟨f0a, f0b, f0c, fxv_0d⟩ := qu3 (f := (fun y => AV.v (.int .i64 y))) [.v (.int .i64 t_0.D)] [] ex0; simp only [Xr, Xp, Xs, Xw, Xz, Xe, Xg, Xc, Xq, q6n] at f0b f0c fxv_0d; obtain ⟨v_1, ev_1, h⟩ := z8 h; simp only [go_sem, hb_0, f0a, f0b, f0c, fxv_0d, F]; refine ai ?_; simp only [Xi, Xt, fxv_0d, Xx, Xu, true_and]; refine callq (fun _ => (z7e (i64.wrap (t_0.D - 1)) v_1 ev_1)) (by rfl) (by rfl) ?_; simp only [go_sem]; refine q8 Q3 (sB h (fun _ h => ?_) fun _ h => ?_)
  . exact au
  . refine y9 (q8 Q2 (sg fun _ Q6 => ?_)); obtain ⟨F, h⟩ := bG F h; obtain ⟨xv_1, ex1, h⟩ := z8 h; obtain ⟨f1a, f1b, f1c, fxv_1d⟩ := qu3 (f := (fun y => AV.v (.int .i64 y))) [.v (.int .i64 t_0.D)] [] ex1; simp only [Xr, Xp, Xs, Xw, Xz, Xe, Xg, Xc, Xq, q6n] at f1b f1c fxv_1d; obtain ⟨F, h⟩ := bG F h; obtain ⟨w_0, ew_0, h⟩ := z8 h; obtain ⟨w_1, ew_1, h⟩ := z8 h; obtain ⟨w_2, ew_2, h⟩ := z8 h; obtain ⟨w_3, ew_3, h⟩ := z8 h; have sf_0 := z81 (f := (fun y => AV.v (.int .i64 y))) [.v (.int .i64 t_0.D)] [] [t_0.C.a0, t_0.C.a1, t_0.C.a2, t_0.C.a3] [w_0, w_1, w_2, w_3] (Xa (i64.wrap (t_0.D - 1))) (i64.wrap (xv_1 + 1)) (by simp only [Xe, Xg]; omega) (by simp only [X5, List.mapIdx_nil, Xc, Xq, Xd ew_0, Xd ew_1, Xd ew_2, Xd ew_3]); simp only [Xr, Xp, Xs, Xw, Xz, Xe, Xg, Xc, Xq, q5t, Nat.add_assoc, X0, q6n] at sf_0; simp only [go_sem, f1a, f1b, f1c, fxv_1d, sf_0, Xt, F]; simp only [Xi, Xt, fxv_1d, Xx, Xu, true_and]; simp only [go_sem, f1a, f1b, f1c, fxv_1d, sf_0, Xt, Xi, Xt, fxv_1d, Xx, Xu, true_and, F]; refine ai ?_; exact au)
end Go.Proofs.YtaiccbgcgcfhfaaGreat
