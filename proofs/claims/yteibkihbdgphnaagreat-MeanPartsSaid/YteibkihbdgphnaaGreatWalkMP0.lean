/-
  What functions of the program compute, each told as a plain function that may give nothing, with the proof that the code does so. No condition beyond those that each theorem names.
-/
import Derived.Test.YteibkihbdgphnaaGreatLibD
import Derived.Test.YteibkihbdgphnaaGreatProg
import Derived.Test.YteibkihbdgphnaaGreatLibM
import Derived.DeepKeys4
import Derived.Test.YteibkihbdgphnaaGreatLibI
set_option linter.unusedSimpArgs false
set_option linter.unusedVariables false
set_option linter.unusedSectionVars false
set_option maxHeartbeats 2000000
set_option maxRecDepth 100000
open Int renaming toNat -> Xa, toNat_natCast -> Xh, reduceToNat -> Xm
open List renaming take -> Xb, length_append -> Xe, length_cons -> Xf, length -> Xg, length_nil -> Xi, drop -> Xk, forall_mem_cons -> Xl, set -> Xo, getD_eq_getElem?_getD -> Xp, cons_append -> Xq, nil_append -> Xs, append_nil -> Xt, replicate -> Xv, map_cons -> Xw, map_nil -> Xy, append_assoc -> Xz
open Nat renaming zero_add -> Xc, add_zero -> Xn, reduceAdd -> Xx, mul_one -> X0
open And renaming intro -> Xd
open Option renaming some.inj -> Xj, getD_some -> Xr, map_some -> Xu
open Bool renaming and_eq_true -> X1
namespace Go.Proofs.YteibkihbdgphnaaGreat
open Go Go.RowKit
open Go.IntKind (i64)
noncomputable abbrev pp : Program := Tryz.prog
theorem z9j : Tryz.prog.underlying 55 = some (.map 78 79) := by kernel_rfl
theorem z9i : Tryz.prog.underlying 56 = some (.map 3 107) := by kernel_rfl
theorem z1z : Tryz.prog.underlying 57 = some (.map 78 66) := by kernel_rfl
@[reducible] def tyF (P : Program) (t s : Nat) (a : Bool) (b : Nat) (n : List (Option Nat)) (r : Option (Nat × Nat)) (z : Option (List Value)) : Prop := szT P t = s /\ q12 P t = true /\ q5c P t = a /\ q1v P t = b /\ q8k P t = n /\ qe6 P t = r /\ q1i P t = z
@[go_sem] theorem jf2 : tyF pp 2 1 false 8 [none] none (some [.int .i64 0]) /\ (qj9 pp 2 = some .i64) /\ tyF pp 3 1 false 8 [none] none (some [.int .i64 0]) /\ (qj9 pp 3 = some .i64) /\ tyF pp 4 1 false 1 [none] none (some [.bool false]) /\ (Tryz.prog.underlying 4 = some .bool) /\ tyF pp 5 1 false 1 [none] none (some [.int .u8 0]) /\ (qj9 pp 5 = some .u8) /\ tyF pp 22 1 false 24 [some 1] none (some [.slice none 0 0]) /\ (sliceT pp 22 = some 3) /\ tyF pp 23 1 false 24 [some 4] none (some [.slice none 0 0]) /\ (sliceT pp 23 = some 44) /\ tyF pp 24 1 false 24 [some 4] none (some [.slice none 0 0]) /\ (sliceT pp 24 = some 52) /\ (szT pp 26 = 4) /\ (q12 pp 26 = true) /\ (q5c pp 26 = true) /\ (q1v pp 26 = 96) := by (repeat' apply Xd) <;> kernel_rfl
@[go_sem] theorem jd2 : (q8k pp 26 = [some 1, some 1, some 4, some 4]) /\ (qe6 pp 26 = none) /\ (q0v pp 26 0 = some (0, 22)) /\ (q0v pp 26 1 = some (1, 22)) /\ (q0v pp 26 2 = some (2, 23)) /\ (q0v pp 26 3 = some (3, 24)) /\ (q57 pp 26 = some [(0, 1), (1, 1), (2, 1), (3, 1)]) /\ (q1i pp 26 = some [.slice none 0 0, .slice none 0 0, .slice none 0 0, .slice none 0 0]) /\ tyF pp 27 1 false 24 [some 4] none (some [.slice none 0 0]) /\ (sliceT pp 27 = some 33) /\ tyF pp 31 2 true 16 [none, none] none (some [.int .i64 0, .int .i64 0]) /\ (q0v pp 31 0 = some (0, 2)) /\ (q0v pp 31 1 = some (1, 2)) /\ (q57 pp 31 = some [(0, 1), (1, 1)]) /\ tyF pp 33 4 true 32 [none, none, none, none] none (some [.int .i64 0, .int .i64 0, .int .i64 0, .int .i64 0]) /\ (q0v pp 33 0 = some (0, 3)) /\ (q0v pp 33 1 = some (1, 3)) /\ (q0v pp 33 2 = some (2, 31)) /\ (q57 pp 33 = some [(0, 1), (1, 1), (2, 2)]) /\ tyF pp 34 1 false 24 [some 4] none (some [.slice none 0 0]) /\ (sliceT pp 34 = some 45) /\ tyF pp 35 1 false 8 [none] none (some [.int .i64 0]) /\ (qj9 pp 35 = some .i64) /\ (szT pp 42 = 1) /\ (q12 pp 42 = true) /\ (q5c pp 42 = false) /\ (q1v pp 42 = 24) /\ (sliceT pp 42 = some 153) /\ (q8k pp 42 = [some 2]) /\ (qe6 pp 42 = none) := by (repeat' apply Xd) <;> kernel_rfl
@[go_sem] theorem jd1 : (q1i pp 42 = some [.slice none 0 0]) /\ tyF pp 44 4 true 48 [none, none, none, some 2] none (some [.int .i64 0, .int .i64 0, .int .i64 0, .slice none 0 0]) /\ (q0v pp 44 0 = some (0, 3)) /\ (q0v pp 44 1 = some (1, 3)) /\ (q0v pp 44 2 = some (2, 2)) /\ (q0v pp 44 3 = some (3, 42)) /\ (q57 pp 44 = some [(0, 1), (1, 1), (2, 1), (3, 1)]) /\ tyF pp 45 4 true 32 [none, none, none, none] none (some [.int .i64 0, .int .i64 0, .int .i64 0, .int .i64 0]) /\ (q0v pp 45 0 = some (0, 3)) /\ (q0v pp 45 1 = some (1, 3)) /\ (q0v pp 45 2 = some (2, 31)) /\ (q57 pp 45 = some [(0, 1), (1, 1), (2, 2)]) /\ tyF pp 46 1 false 8 [none] none (some [.int .u64 0]) /\ (qj9 pp 46 = some .u64) /\ tyF pp 48 1 false 8 [none] none (some [.int .u64 0]) /\ (qj9 pp 48 = some .u64) /\ tyF pp 52 4 true 32 [none, none, none, none] none (some [.int .i64 0, .int .i64 0, .int .i64 0, .bool false]) /\ (q0v pp 52 0 = some (0, 3)) /\ (q0v pp 52 1 = some (1, 3)) /\ (q0v pp 52 2 = some (2, 3)) /\ (q0v pp 52 3 = some (3, 4)) /\ (q57 pp 52 = some [(0, 1), (1, 1), (2, 1), (3, 1)]) /\ (z1o pp 54 = true) /\ tyF pp 54 1 false 8 [none] none (some [.pointer none]) := by (repeat' apply Xd) <;> kernel_rfl
@[go_sem] theorem jd0 : (Tryz.prog.underlying 55 = some (.map 78 79)) /\ ((Tryz.prog.info? 79).bind (·.zero) = some (.pointer none)) /\ tyF pp 55 1 false 8 [none] none (some [.map none]) /\ (Tryz.prog.underlying 56 = some (.map 3 107)) /\ ((Tryz.prog.info? 107).bind (·.zero) = some (.slice none 0 0)) /\ tyF pp 56 1 false 8 [none] none (some [.map none]) /\ (Tryz.prog.underlying 57 = some (.map 78 66)) /\ ((Tryz.prog.info? 66).bind (·.zero) = some (.slice none 0 0)) /\ tyF pp 57 1 false 8 [none] none (some [.map none]) /\ tyF pp 59 11 true 168 [some 1, some 1, some 4, some 4, none, none, none, none, none, some 4, none] none (some [.slice none 0 0, .slice none 0 0, .slice none 0 0, .slice none 0 0, .map none, .map none, .map none, .int .i64 0, .int .i64 0, .slice none 0 0, .int .i64 0]) /\ (q0v pp 59 0 = some (0, 26)) /\ (q0v pp 59 1 = some (4, 55)) /\ (q0v pp 59 2 = some (5, 56)) /\ (q0v pp 59 3 = some (6, 57)) /\ (q0v pp 59 4 = some (7, 3)) /\ (q0v pp 59 5 = some (8, 3)) /\ (q0v pp 59 6 = some (9, 34)) /\ (q0v pp 59 7 = some (10, 35)) /\ (q57 pp 59 = some [(0, 4), (4, 1), (5, 1), (6, 1), (7, 1), (8, 1), (9, 1), (10, 1)]) /\ tyF pp 61 4 true 32 [none, none, none, none] (some (4, 3)) (some [.int .i64 0, .int .i64 0, .int .i64 0, .int .i64 0]) /\ (q57 pp 61 = some [(0, 1), (1, 1), (2, 1), (3, 1)]) /\ (szT pp 63 = 5) /\ (q12 pp 63 = true) /\ (q5c pp 63 = true) /\ (q1v pp 63 = 40) /\ (q8k pp 63 = [none, none, none, none, none]) /\ (qe6 pp 63 = none) /\ (q0v pp 63 0 = some (0, 3)) /\ (q0v pp 63 1 = some (1, 61)) /\ (q57 pp 63 = some [(0, 1), (1, 4)]) := by (repeat' apply Xd) <;> kernel_rfl
@[go_sem] theorem jc9 : (q1i pp 63 = some [.int .i64 0, .int .i64 0, .int .i64 0, .int .i64 0, .int .i64 0]) /\ tyF pp 65 3 true 24 [none, none, none] none (some [.int .i64 0, .int .i64 0, .int .i64 0]) /\ (q0v pp 65 0 = some (0, 31)) /\ (q0v pp 65 1 = some (2, 3)) /\ (q57 pp 65 = some [(0, 2), (2, 1)]) /\ tyF pp 66 1 false 24 [some 3] none (some [.slice none 0 0]) /\ (sliceT pp 66 = some 65) /\ tyF pp 72 1 false 8 [none] none (some [.nilFunc]) /\ tyF pp 76 1 false 8 [none] none (some [.nilFunc]) /\ tyF pp 78 6 true 48 [none, none, none, none, none, none] none (some [.int .i64 0, .int .i64 0, .int .i64 0, .int .i64 0, .int .i64 0, .int .i64 0]) /\ (q0v pp 78 0 = some (0, 3)) /\ (q0v pp 78 1 = some (1, 63)) /\ (q57 pp 78 = some [(0, 1), (1, 5)]) /\ (z1o pp 79 = true) /\ tyF pp 79 1 false 8 [none] none (some [.pointer none]) /\ tyF pp 80 2 true 48 [some 3, some 3] (some (2, 66)) (some [.slice none 0 0, .slice none 0 0]) /\ (q57 pp 80 = some [(0, 1), (1, 1)]) /\ (szT pp 103 = 1) := by (repeat' apply Xd) <;> kernel_rfl
@[go_sem] theorem jc8 : (q12 pp 103 = true) /\ (q5c pp 103 = false) /\ (q1v pp 103 = 4) /\ (qj9 pp 103 = some .u32) /\ (q8k pp 103 = [none]) /\ (qe6 pp 103 = none) /\ (q1i pp 103 = some [.int .u32 0]) /\ tyF pp 106 1 false 24 [some 1] none (some [.slice none 0 0]) /\ (sliceT pp 106 = some 66) /\ tyF pp 107 1 false 24 [some 6] none (some [.slice none 0 0]) /\ (sliceT pp 107 = some 109) /\ tyF pp 109 6 true 48 [none, none, none, none, none, none] none (some [.int .i64 0, .int .i64 0, .int .i64 0, .int .i64 0, .int .i64 0, .int .i64 0]) /\ (q0v pp 109 0 = some (0, 63)) /\ (q0v pp 109 1 = some (5, 3)) /\ (q57 pp 109 = some [(0, 5), (5, 1)]) /\ tyF pp 113 1 false 24 [some 2] none (some [.slice none 0 0]) /\ (sliceT pp 113 = some 31) /\ tyF pp 127 1 false 24 [some 1] none (some [.slice none 0 0]) /\ (sliceT pp 127 = some 4) /\ tyF pp 128 1 false 8 [none] none (some [.nilFunc]) /\ (z1o pp 141 = true) /\ (szT pp 141 = 1) /\ (q12 pp 141 = true) /\ (q5c pp 141 = false) := by (repeat' apply Xd) <;> kernel_rfl
@[go_sem] theorem jc7 : (q1v pp 141 = 8) /\ (q8k pp 141 = [none]) /\ (qe6 pp 141 = none) /\ (q1i pp 141 = some [.pointer none]) /\ tyF pp 143 2 true 32 [some 3, none] none (some [.slice none 0 0, .int .i64 0]) /\ (q0v pp 143 0 = some (0, 66)) /\ (q0v pp 143 1 = some (1, 3)) /\ (q57 pp 143 = some [(0, 1), (1, 1)]) /\ tyF pp 151 1 false 8 [none] none (some [.nilFunc]) /\ tyF pp 153 2 true 16 [none, none] none (some [.int .i64 0, .int .i64 0]) /\ (q0v pp 153 0 = some (0, 3)) /\ (q0v pp 153 1 = some (1, 2)) /\ (q57 pp 153 = some [(0, 1), (1, 1)]) /\ tyF pp 155 1 false 8 [none] none (some [.nilFunc]) /\ tyF pp 159 1 false 8 [none] none (some [.nilFunc]) /\ tyF pp 168 1 false 8 [none] none (some [.nilFunc]) /\ (szT pp 170 = 2) /\ (q12 pp 170 = true) /\ (q5c pp 170 = true) /\ (q1v pp 170 = 16) /\ (q8k pp 170 = [none, none]) /\ (qe6 pp 170 = none) /\ (q0v pp 170 0 = some (0, 2)) /\ (q0v pp 170 1 = some (1, 46)) := by (repeat' apply Xd) <;> kernel_rfl
@[go_sem] theorem jc6 : (q57 pp 170 = some [(0, 1), (1, 1)]) /\ (q1i pp 170 = some [.int .i64 0, .int .u64 0]) /\ (z1o pp 188 = true) /\ tyF pp 188 1 false 8 [none] none (some [.pointer none]) /\ tyF pp 189 1 false 24 [some 1] none (some [.slice none 0 0]) /\ (sliceT pp 189 = some 2) /\ tyF pp 191 6 true 80 [none, none, some 1, some 2, none, none] none (some [.int .i64 0, .int .i64 0, .slice none 0 0, .slice none 0 0, .int .i64 0, .int .i64 0]) /\ (q0v pp 191 0 = some (0, 31)) /\ (q0v pp 191 1 = some (2, 189)) /\ (q0v pp 191 2 = some (3, 113)) /\ (q0v pp 191 3 = some (4, 3)) /\ (q0v pp 191 4 = some (5, 3)) /\ (q57 pp 191 = some [(0, 2), (2, 1), (3, 1), (4, 1), (5, 1)]) /\ (q00 pp 3 = true) /\ (q00 pp 4 = true) /\ (q00 pp 5 = true) /\ (q00 pp 6 = true) /\ (q00 pp 7 = true) /\ (q00 pp 8 = true) /\ (q00 pp 9 = true) /\ (q00 pp 10 = true) /\ (q00 pp 11 = true) /\ (q00 pp 12 = true) /\ (q00 pp 13 = true) /\ (q00 pp 14 = true) /\ (q00 pp 15 = true) /\ (q00 pp 16 = true) /\ (q00 pp 17 = true) /\ (q00 pp 18 = true) /\ (q00 pp 19 = true) /\ (q00 pp 20 = true) /\ (q00 pp 21 = true) /\ (q00 pp 22 = true) /\ (q00 pp 23 = true) /\ (q00 pp 24 = true) /\ (q00 pp 25 = true) /\ (q00 pp 26 = true) /\ (q00 pp 29 = true) /\ (q00 pp 30 = true) /\ (q00 pp 31 = true) /\ (q00 pp 32 = true) /\ (q00 pp 33 = true) := by (repeat' apply Xd) <;> kernel_rfl
@[go_sem] theorem jc5 : (q00 pp 34 = true) /\ (q00 pp 35 = true) /\ (q00 pp 36 = true) /\ (q00 pp 37 = true) /\ (q00 pp 38 = true) /\ (q00 pp 39 = true) /\ (q00 pp 40 = true) /\ (q00 pp 41 = true) /\ (q00 pp 53 = true) /\ (q00 pp 54 = true) /\ (q00 pp 55 = true) /\ (q00 pp 56 = true) /\ (q00 pp 57 = true) /\ (q00 pp 58 = true) /\ (q00 pp 59 = true) /\ (q00 pp 60 = true) /\ (q00 pp 61 = true) /\ (q00 pp 62 = true) /\ (q00 pp 63 = true) /\ (q00 pp 64 = true) /\ (q00 pp 65 = true) /\ (q00 pp 66 = true) /\ (q00 pp 67 = true) /\ (q00 pp 68 = true) /\ (q00 pp 69 = true) /\ (q00 pp 70 = true) /\ (q00 pp 71 = true) /\ (q00 pp 72 = true) /\ (q00 pp 73 = true) /\ (q00 pp 74 = true) /\ (q00 pp 75 = true) /\ (q00 pp 76 = true) /\ (q00 pp 77 = true) /\ (q00 pp 83 = true) /\ (q00 pp 84 = true) /\ (q00 pp 85 = true) /\ (q00 pp 86 = true) /\ (q00 pp 87 = true) /\ (q00 pp 88 = true) /\ (q00 pp 89 = true) /\ (q00 pp 90 = true) /\ (q00 pp 91 = true) /\ (q00 pp 92 = true) /\ (q00 pp 93 = true) /\ (q00 pp 94 = true) /\ (q00 pp 95 = true) /\ (q00 pp 96 = true) /\ (q00 pp 97 = true) /\ (q00 pp 98 = true) /\ (q00 pp 99 = true) /\ (q00 pp 100 = true) /\ (q00 pp 101 = true) /\ (q00 pp 102 = true) /\ (q00 pp 103 = true) /\ (q00 pp 104 = true) /\ (q00 pp 105 = true) /\ (q00 pp 107 = true) /\ (q00 pp 108 = true) /\ (q00 pp 109 = true) /\ (q00 pp 110 = true) := by (repeat' apply Xd) <;> kernel_rfl
@[go_sem] theorem jc4 : (q00 pp 111 = true) /\ (q00 pp 112 = true) /\ (q00 pp 113 = true) /\ (q00 pp 114 = true) /\ (q00 pp 115 = true) /\ (q00 pp 116 = true) /\ (q00 pp 117 = true) /\ (q00 pp 118 = true) /\ (q00 pp 119 = true) /\ (q00 pp 120 = true) /\ (q00 pp 121 = true) /\ (q00 pp 124 = true) /\ (q00 pp 125 = true) /\ (q00 pp 126 = true) /\ (q00 pp 127 = true) /\ (q00 pp 128 = true) /\ (q00 pp 129 = true) /\ (q00 pp 131 = true) /\ (q00 pp 135 = true) /\ (q00 pp 136 = true) /\ (q00 pp 137 = true) /\ (q00 pp 138 = true) /\ (q00 pp 139 = true) /\ (q00 pp 140 = true) /\ (q00 pp 141 = true) := by (repeat' apply Xd) <;> kernel_rfl
theorem mixed : Tryz.prog.follows .mixedOrders = true := by kernel_rfl
structure Arr2 (α : Type) where
  a0 : α
  a1 : α
instance {α : Type} [Row α] : Row (Arr2 α) := ⟨Row.sz α + Row.sz α, fun x => Row.row x.a0 ++ Row.row x.a1⟩
instance {α : Type} [Dat α] : Dat (Arr2 α) where
  ct := Dat.ct α ++ (Dat.ct α)
  ok x := Dat.ok x.a0 /\ Dat.ok x.a1
  len := by simp only [Xe, Dat.len]; (try simp only [Row.sz]); (try omega)
  of avs h := by
    obtain ⟨b0, r0, rfl, h0, g0⟩ := q0l h; obtain ⟨x0, rfl, k0⟩ := Dat.of (α := α) _ h0; obtain ⟨x1, rfl, k1⟩ := Dat.of (α := α) _ g0; exact ⟨⟨x0, x1⟩, by simp only [Row.row, Xz], k0, k1⟩
structure Arr4 (α : Type) where
  a0 : α
  a1 : α
  a2 : α
  a3 : α
instance {α : Type} [Row α] : Row (Arr4 α) := ⟨Row.sz α + Row.sz α + Row.sz α + Row.sz α, fun x => Row.row x.a0 ++ Row.row x.a1 ++ Row.row x.a2 ++ Row.row x.a3⟩
instance {α : Type} [Dat α] : Dat (Arr4 α) where
  ct := Dat.ct α ++ (Dat.ct α ++ (Dat.ct α ++ (Dat.ct α)))
  ok x := Dat.ok x.a0 /\ Dat.ok x.a1 /\ Dat.ok x.a2 /\ Dat.ok x.a3
  len := by simp only [Xe, Dat.len]; (try simp only [Row.sz]); (try omega)
  of avs h := by
    obtain ⟨b0, r0, rfl, h0, g0⟩ := q0l h; obtain ⟨b1, r1, rfl, h1, g1⟩ := q0l g0; obtain ⟨b2, r2, rfl, h2, g2⟩ := q0l g1; obtain ⟨x0, rfl, k0⟩ := Dat.of (α := α) _ h0; obtain ⟨x1, rfl, k1⟩ := Dat.of (α := α) _ h1; obtain ⟨x2, rfl, k2⟩ := Dat.of (α := α) _ h2; obtain ⟨x3, rfl, k3⟩ := Dat.of (α := α) _ g2; exact ⟨⟨x0, x1, x2, x3⟩, by simp only [Row.row, Xz], k0, k1, k2, k3⟩
structure Nu64 where
  n : Int
instance : Row Nu64 := ⟨1, fun x => [.v (.int .u64 x.n)]⟩
@[go_sem] theorem jd8 (x : Nu64) : Row.row x = [.v (.int .u64 x.n)] := rfl
instance : Dat Nu64 where
  ct := [.int .u64]
  ok x := inI .u64 x.n
  len := rfl
  of avs h := by
    simp only [q2y, qx7] at h; obtain ⟨_, _, rfl, ⟨n, rfl, hw⟩, rfl⟩ := h; exact ⟨⟨n⟩, rfl, hw⟩
structure GIns where
  Op : Int
  N : Int
instance : Row GIns := ⟨2, fun x => [.v (.int .i64 x.Op), .v (.int .i64 x.N)]⟩
@[go_sem] theorem je1 (x : GIns) : Row.row x = [.v (.int .i64 x.Op), .v (.int .i64 x.N)] := rfl
@[go_sem] theorem jf5 : Row.sz GIns = 2 := rfl
instance : Dat GIns where
  ct := Dat.ct Int ++ (Dat.ct Int)
  ok x := Dat.ok x.Op /\ Dat.ok x.N
  len := rfl
  of avs h := by
    obtain ⟨b0, r0, rfl, h0, g0⟩ := q0l h; obtain ⟨x0, rfl, k0⟩ := Dat.of (α := Int) _ h0; obtain ⟨x1, rfl, k1⟩ := Dat.of (α := Int) _ g0; exact ⟨⟨x0, x1⟩, rfl, k0, k1⟩
structure GNode where
  Kind : Int
  Scope : Int
  Arg : Int
  Prog : List GIns
instance : Row GNode := ⟨4, fun x => [.v (.int .i64 x.Kind), .v (.int .i64 x.Scope), .v (.int .i64 x.Arg), .sl 2 (enc x.Prog)]⟩
@[go_sem] theorem jb9 (x : GNode) : Row.row x = [.v (.int .i64 x.Kind), .v (.int .i64 x.Scope), .v (.int .i64 x.Arg), .sl 2 (enc x.Prog)] := rfl
@[go_sem] theorem jd4 : Row.sz GNode = 4 := rfl
instance : Dat GNode where
  ct := Dat.ct Int ++ (Dat.ct Int ++ (Dat.ct Int ++ (Dat.ct (List GIns))))
  ok x := Dat.ok x.Kind /\ Dat.ok x.Scope /\ Dat.ok x.Arg /\ Dat.ok x.Prog
  len := rfl
  of avs h := by
    obtain ⟨b0, r0, rfl, h0, g0⟩ := q0l h; obtain ⟨b1, r1, rfl, h1, g1⟩ := q0l g0; obtain ⟨b2, r2, rfl, h2, g2⟩ := q0l g1; obtain ⟨x0, rfl, k0⟩ := Dat.of (α := Int) _ h0; obtain ⟨x1, rfl, k1⟩ := Dat.of (α := Int) _ h1; obtain ⟨x2, rfl, k2⟩ := Dat.of (α := Int) _ h2; obtain ⟨x3, rfl, k3⟩ := Dat.of (α := List GIns) _ g2; exact ⟨⟨x0, x1, x2, x3⟩, rfl, k0, k1, k2, k3⟩
structure GEdge where
  From : Int
  To : Int
  Port : Int
  Exchange : Bool
instance : Row GEdge := ⟨4, fun x => [.v (.int .i64 x.From), .v (.int .i64 x.To), .v (.int .i64 x.Port), .v (.bool x.Exchange)]⟩
@[go_sem] theorem jc1 (x : GEdge) : Row.row x = [.v (.int .i64 x.From), .v (.int .i64 x.To), .v (.int .i64 x.Port), .v (.bool x.Exchange)] := rfl
@[go_sem] theorem jd7 : Row.sz GEdge = 4 := rfl
instance : Dat GEdge where
  ct := Dat.ct Int ++ (Dat.ct Int ++ (Dat.ct Int ++ (Dat.ct Bool)))
  ok x := Dat.ok x.From /\ Dat.ok x.To /\ Dat.ok x.Port /\ Dat.ok x.Exchange
  len := rfl
  of avs h := by
    obtain ⟨b0, r0, rfl, h0, g0⟩ := q0l h; obtain ⟨b1, r1, rfl, h1, g1⟩ := q0l g0; obtain ⟨b2, r2, rfl, h2, g2⟩ := q0l g1; obtain ⟨x0, rfl, k0⟩ := Dat.of (α := Int) _ h0; obtain ⟨x1, rfl, k1⟩ := Dat.of (α := Int) _ h1; obtain ⟨x2, rfl, k2⟩ := Dat.of (α := Int) _ h2; obtain ⟨x3, rfl, k3⟩ := Dat.of (α := Bool) _ g2; exact ⟨⟨x0, x1, x2, x3⟩, rfl, k0, k1, k2, k3⟩
structure GGraph where
  Parent : List Int
  Bound : List Int
  Nodes : List GNode
  Edges : List GEdge
instance : Row GGraph := ⟨4, fun x => [.sl 1 (enc x.Parent), .sl 1 (enc x.Bound), .sl 4 (enc x.Nodes), .sl 4 (enc x.Edges)]⟩
@[go_sem] theorem j9t (x : GGraph) : Row.row x = [.sl 1 (enc x.Parent), .sl 1 (enc x.Bound), .sl 4 (enc x.Nodes), .sl 4 (enc x.Edges)] := rfl
@[go_sem] theorem jb6 : Row.sz GGraph = 4 := rfl
instance : Dat GGraph where
  ct := Dat.ct (List Int) ++ (Dat.ct (List Int) ++ (Dat.ct (List GNode) ++ (Dat.ct (List GEdge))))
  ok x := Dat.ok x.Parent /\ Dat.ok x.Bound /\ Dat.ok x.Nodes /\ Dat.ok x.Edges
  len := rfl
  of avs h := by
    obtain ⟨b0, r0, rfl, h0, g0⟩ := q0l h; obtain ⟨b1, r1, rfl, h1, g1⟩ := q0l g0; obtain ⟨b2, r2, rfl, h2, g2⟩ := q0l g1; obtain ⟨x0, rfl, k0⟩ := Dat.of (α := List Int) _ h0; obtain ⟨x1, rfl, k1⟩ := Dat.of (α := List Int) _ h1; obtain ⟨x2, rfl, k2⟩ := Dat.of (α := List GNode) _ h2; obtain ⟨x3, rfl, k3⟩ := Dat.of (α := List GEdge) _ g2; exact ⟨⟨x0, x1, x2, x3⟩, rfl, k0, k1, k2, k3⟩
structure GRec where
  K : Int
  V : Int
instance : Row GRec := ⟨2, fun x => [.v (.int .i64 x.K), .v (.int .i64 x.V)]⟩
@[go_sem] theorem jd9 (x : GRec) : Row.row x = [.v (.int .i64 x.K), .v (.int .i64 x.V)] := rfl
@[go_sem] theorem jf3 : Row.sz GRec = 2 := rfl
instance : Dat GRec where
  ct := Dat.ct Int ++ (Dat.ct Int)
  ok x := Dat.ok x.K /\ Dat.ok x.V
  len := rfl
  of avs h := by
    obtain ⟨b0, r0, rfl, h0, g0⟩ := q0l h; obtain ⟨x0, rfl, k0⟩ := Dat.of (α := Int) _ h0; obtain ⟨x1, rfl, k1⟩ := Dat.of (α := Int) _ g0; exact ⟨⟨x0, x1⟩, rfl, k0, k1⟩
structure GFeed where
  Node : Int
  Epoch : Int
  Rec : GRec
instance : Row GFeed := ⟨4, fun x => [.v (.int .i64 x.Node), .v (.int .i64 x.Epoch), .v (.int .i64 x.Rec.K), .v (.int .i64 x.Rec.V)]⟩
@[go_sem] theorem jc0 (x : GFeed) : Row.row x = [.v (.int .i64 x.Node), .v (.int .i64 x.Epoch), .v (.int .i64 x.Rec.K), .v (.int .i64 x.Rec.V)] := rfl
@[go_sem] theorem jd6 : Row.sz GFeed = 4 := rfl
instance : Dat GFeed where
  ct := Dat.ct Int ++ (Dat.ct Int ++ (Dat.ct GRec))
  ok x := Dat.ok x.Node /\ Dat.ok x.Epoch /\ Dat.ok x.Rec
  len := rfl
  of avs h := by
    obtain ⟨b0, r0, rfl, h0, g0⟩ := q0l h; obtain ⟨b1, r1, rfl, h1, g1⟩ := q0l g0; obtain ⟨x0, rfl, k0⟩ := Dat.of (α := Int) _ h0; obtain ⟨x1, rfl, k1⟩ := Dat.of (α := Int) _ h1; obtain ⟨x2, rfl, k2⟩ := Dat.of (α := GRec) _ g1; exact ⟨⟨x0, x1, x2⟩, rfl, k0, k1, k2⟩
structure GItem where
  Rec : GRec
  N : Int
instance : Row GItem := ⟨3, fun x => [.v (.int .i64 x.Rec.K), .v (.int .i64 x.Rec.V), .v (.int .i64 x.N)]⟩
@[go_sem] theorem j1i (x : GItem) : Row.row x = [.v (.int .i64 x.Rec.K), .v (.int .i64 x.Rec.V), .v (.int .i64 x.N)] := rfl
@[go_sem] theorem jd5 : Row.sz GItem = 3 := rfl
instance : Dat GItem where
  ct := Dat.ct GRec ++ (Dat.ct Int)
  ok x := Dat.ok x.Rec /\ Dat.ok x.N
  len := rfl
  of avs h := by
    obtain ⟨b0, r0, rfl, h0, g0⟩ := q0l h; obtain ⟨x0, rfl, k0⟩ := Dat.of (α := GRec) _ h0; obtain ⟨x1, rfl, k1⟩ := Dat.of (α := Int) _ g0; exact ⟨⟨x0, x1⟩, rfl, k0, k1⟩
structure GTime where
  D : Int
  C : Arr4 Int
instance : Row GTime := ⟨5, fun x => [.v (.int .i64 x.D), .v (.int .i64 x.C.a0), .v (.int .i64 x.C.a1), .v (.int .i64 x.C.a2), .v (.int .i64 x.C.a3)]⟩
@[go_sem] theorem jb8 (x : GTime) : Row.row x = [.v (.int .i64 x.D), .v (.int .i64 x.C.a0), .v (.int .i64 x.C.a1), .v (.int .i64 x.C.a2), .v (.int .i64 x.C.a3)] := rfl
@[go_sem] theorem jd3 : Row.sz GTime = 5 := rfl
instance : Dat GTime where
  ct := Dat.ct Int ++ (Dat.ct (Arr4 Int))
  ok x := Dat.ok x.D /\ Dat.ok x.C
  len := rfl
  of avs h := by
    obtain ⟨b0, r0, rfl, h0, g0⟩ := q0l h; obtain ⟨x0, rfl, k0⟩ := Dat.of (α := Int) _ h0; obtain ⟨x1, rfl, k1⟩ := Dat.of (α := Arr4 Int) _ g0; exact ⟨⟨x0, x1⟩, rfl, k0, k1⟩
structure GMean_point where
  node : Int
  time : GTime
instance : Row GMean_point := ⟨6, fun x => [.v (.int .i64 x.node), .v (.int .i64 x.time.D), .v (.int .i64 x.time.C.a0), .v (.int .i64 x.time.C.a1), .v (.int .i64 x.time.C.a2), .v (.int .i64 x.time.C.a3)]⟩
@[go_sem] theorem j5j (x : GMean_point) : Row.row x = [.v (.int .i64 x.node), .v (.int .i64 x.time.D), .v (.int .i64 x.time.C.a0), .v (.int .i64 x.time.C.a1), .v (.int .i64 x.time.C.a2), .v (.int .i64 x.time.C.a3)] := rfl
@[go_sem] theorem j6n : Row.sz GMean_point = 6 := rfl
instance : Dat GMean_point where
  ct := Dat.ct Int ++ (Dat.ct GTime)
  ok x := Dat.ok x.node /\ Dat.ok x.time
  len := rfl
  of avs h := by
    obtain ⟨b0, r0, rfl, h0, g0⟩ := q0l h; obtain ⟨x0, rfl, k0⟩ := Dat.of (α := Int) _ h0; obtain ⟨x1, rfl, k1⟩ := Dat.of (α := GTime) _ g0; exact ⟨⟨x0, x1⟩, rfl, k0, k1⟩
structure GCount where
  Time : GTime
  N : Int
instance : Row GCount := ⟨6, fun x => [.v (.int .i64 x.Time.D), .v (.int .i64 x.Time.C.a0), .v (.int .i64 x.Time.C.a1), .v (.int .i64 x.Time.C.a2), .v (.int .i64 x.Time.C.a3), .v (.int .i64 x.N)]⟩
@[go_sem] theorem j9u (x : GCount) : Row.row x = [.v (.int .i64 x.Time.D), .v (.int .i64 x.Time.C.a0), .v (.int .i64 x.Time.C.a1), .v (.int .i64 x.Time.C.a2), .v (.int .i64 x.Time.C.a3), .v (.int .i64 x.N)] := rfl
@[go_sem] theorem jb7 : Row.sz GCount = 6 := rfl
instance : Dat GCount where
  ct := Dat.ct GTime ++ (Dat.ct Int)
  ok x := Dat.ok x.Time /\ Dat.ok x.N
  len := rfl
  of avs h := by
    obtain ⟨b0, r0, rfl, h0, g0⟩ := q0l h; obtain ⟨x0, rfl, k0⟩ := Dat.of (α := GTime) _ h0; obtain ⟨x1, rfl, k1⟩ := Dat.of (α := Int) _ g0; exact ⟨⟨x0, x1⟩, rfl, k0, k1⟩
structure GOut where
  Node : Int
  Epoch : Int
  Rec : GRec
instance : Row GOut := ⟨4, fun x => [.v (.int .i64 x.Node), .v (.int .i64 x.Epoch), .v (.int .i64 x.Rec.K), .v (.int .i64 x.Rec.V)]⟩
@[go_sem] theorem je0 (x : GOut) : Row.row x = [.v (.int .i64 x.Node), .v (.int .i64 x.Epoch), .v (.int .i64 x.Rec.K), .v (.int .i64 x.Rec.V)] := rfl
@[go_sem] theorem jf4 : Row.sz GOut = 4 := rfl
instance : Dat GOut where
  ct := Dat.ct Int ++ (Dat.ct Int ++ (Dat.ct GRec))
  ok x := Dat.ok x.Node /\ Dat.ok x.Epoch /\ Dat.ok x.Rec
  len := rfl
  of avs h := by
    obtain ⟨b0, r0, rfl, h0, g0⟩ := q0l h; obtain ⟨b1, r1, rfl, h1, g1⟩ := q0l g0; obtain ⟨x0, rfl, k0⟩ := Dat.of (α := Int) _ h0; obtain ⟨x1, rfl, k1⟩ := Dat.of (α := Int) _ h1; obtain ⟨x2, rfl, k2⟩ := Dat.of (α := GRec) _ g1; exact ⟨⟨x0, x1, x2⟩, rfl, k0, k1, k2⟩
structure GMean_runner where
  g : GGraph
  ins : List GMean_point × List (Arr2 (List GItem))
  past : List Int × List (List GCount)
  bags : List GMean_point × List (List GItem)
  work : Int
  most : Int
  outs : List GOut
  e : Int
structure GProg_machine where
  r : GRec
  stack : List Int
  out : List GRec
  at_ : Int
  bad : Int
instance : Row GProg_machine := ⟨6, fun x => [.v (.int .i64 x.r.K), .v (.int .i64 x.r.V), .sl 1 (enc x.stack), .sl 2 (enc x.out), .v (.int .i64 x.at_), .v (.int .i64 x.bad)]⟩
@[go_sem] theorem j31 (x : GProg_machine) : Row.row x = [.v (.int .i64 x.r.K), .v (.int .i64 x.r.V), .sl 1 (enc x.stack), .sl 2 (enc x.out), .v (.int .i64 x.at_), .v (.int .i64 x.bad)] := rfl
@[go_sem] theorem j3m : Row.sz GProg_machine = 6 := rfl
instance : Dat GProg_machine where
  ct := Dat.ct GRec ++ (Dat.ct (List Int) ++ (Dat.ct (List GRec) ++ (Dat.ct Int ++ (Dat.ct Int))))
  ok x := Dat.ok x.r /\ Dat.ok x.stack /\ Dat.ok x.out /\ Dat.ok x.at_ /\ Dat.ok x.bad
  len := rfl
  of avs h := by
    obtain ⟨b0, r0, rfl, h0, g0⟩ := q0l h; obtain ⟨b1, r1, rfl, h1, g1⟩ := q0l g0; obtain ⟨b2, r2, rfl, h2, g2⟩ := q0l g1; obtain ⟨b3, r3, rfl, h3, g3⟩ := q0l g2; obtain ⟨x0, rfl, k0⟩ := Dat.of (α := GRec) _ h0; obtain ⟨x1, rfl, k1⟩ := Dat.of (α := List Int) _ h1; obtain ⟨x2, rfl, k2⟩ := Dat.of (α := List GRec) _ h2; obtain ⟨x3, rfl, k3⟩ := Dat.of (α := Int) _ h3; obtain ⟨x4, rfl, k4⟩ := Dat.of (α := Int) _ g3; exact ⟨⟨x0, x1, x2, x3, x4⟩, rfl, k0, k1, k2, k3, k4⟩
structure GOps_maker where
  out : List GItem
  many : Int
instance : Row GOps_maker := ⟨2, fun x => [.sl 3 (enc x.out), .v (.int .i64 x.many)]⟩
@[go_sem] theorem j6x (x : GOps_maker) : Row.row x = [.sl 3 (enc x.out), .v (.int .i64 x.many)] := rfl
@[go_sem] theorem j7w : Row.sz GOps_maker = 2 := rfl
instance : Dat GOps_maker where
  ct := Dat.ct (List GItem) ++ (Dat.ct Int)
  ok x := Dat.ok x.out /\ Dat.ok x.many
  len := rfl
  of avs h := by
    obtain ⟨b0, r0, rfl, h0, g0⟩ := q0l h; obtain ⟨x0, rfl, k0⟩ := Dat.of (α := List GItem) _ h0; obtain ⟨x1, rfl, k1⟩ := Dat.of (α := Int) _ g0; exact ⟨⟨x0, x1⟩, rfl, k0, k1⟩
structure GOps_wide where
  hi : Int
  lo : Nu64
instance : Row GOps_wide := ⟨2, fun x => [.v (.int .i64 x.hi), .v (.int .u64 x.lo.n)]⟩
@[go_sem] theorem j7x (x : GOps_wide) : Row.row x = [.v (.int .i64 x.hi), .v (.int .u64 x.lo.n)] := rfl
@[go_sem] theorem j8a : Row.sz GOps_wide = 2 := rfl
instance : Dat GOps_wide where
  ct := Dat.ct Int ++ (Dat.ct Nu64)
  ok x := Dat.ok x.hi /\ Dat.ok x.lo
  len := rfl
  of avs h := by
    obtain ⟨b0, r0, rfl, h0, g0⟩ := q0l h; obtain ⟨x0, rfl, k0⟩ := Dat.of (α := Int) _ h0; obtain ⟨x1, rfl, k1⟩ := Dat.of (α := Nu64) _ g0; exact ⟨⟨x0, x1⟩, rfl, k0, k1⟩
instance : Key GMean_point where
  kv x := .agg ⟨[.int .i64 x.node, .int .i64 x.time.D, .int .i64 x.time.C.a0, .int .i64 x.time.C.a1, .int .i64 x.time.C.a2, .int .i64 x.time.C.a3]⟩
  keq a b := (a.node == b.node) && (a.time.D == b.time.D) && (a.time.C.a0 == b.time.C.a0) && (a.time.C.a1 == b.time.C.a1) && (a.time.C.a2 == b.time.C.a2) && (a.time.C.a3 == b.time.C.a3)
  keq_iff := by
    intro a b; obtain ⟨a1, ⟨a2, ⟨a3, a4, a5, a6⟩⟩⟩ := a; obtain ⟨b1, ⟨b2, ⟨b3, b4, b5, b6⟩⟩⟩ := b
    constructor
    . intro h; simp only [X1, beq_iff_eq] at h; simp [h]
    . intro h; cases h; simp
  okb a := (Key.okb a.node) && (Key.okb a.time.D) && (Key.okb a.time.C.a0) && (Key.okb a.time.C.a1) && (Key.okb a.time.C.a2) && (Key.okb a.time.C.a3)
  inj := by
    intro a b h; obtain ⟨a1, ⟨a2, ⟨a3, a4, a5, a6⟩⟩⟩ := a; obtain ⟨b1, ⟨b2, ⟨b3, b4, b5, b6⟩⟩⟩ := b; simp at h; simp [h]
theorem j4j : laidOutB pp = true := by kernel_rfl
theorem z2i : Go.Maps.Keyed pp 3 := Go.Maps.int_keyed (q := .i64) (by kernel_rfl)
theorem j27 (p : Int) (h : Key.okb p = true) : ∃ l, keyOf pp 3 (Key.kv p) = some l := keyOf_i64 (by kernel_rfl) h
theorem q4n : Go.Maps.Keyed pp 78 := Go.Maps.Keyed.of_law (deep_law_laid j4j (m := 6) (by omega) (of_decide_eq_true (by kernel_rfl)) (by kernel_rfl) (by kernel_rfl))
theorem z2g (p : GMean_point) (h : Key.okb p = true) : ∃ l, keyOf pp 78 (Key.kv p) = some l := by
  obtain ⟨a1, ⟨a2, ⟨a3, a4, a5, a6⟩⟩⟩ := p; replace h : (Key.okb a1 && Key.okb a2 && Key.okb a3 && Key.okb a4 && Key.okb a5 && Key.okb a6) = true := h; simp only [X1] at h; obtain ⟨⟨⟨⟨⟨h1, h2⟩, h3⟩, h4⟩, h5⟩, h6⟩ := h; exact zz9 (by rw [Tryz.underlying78]) (by kernel_rfl) (by kernel_rfl) (by kernel_rfl) (by kernel_rfl) (Xl.2 ⟨z02 h1, Xl.2 ⟨z02 h2, Xl.2 ⟨z02 h3, Xl.2 ⟨z02 h4, Xl.2 ⟨z02 h5, Xl.2 ⟨z02 h6, fun _ h => nomatch h⟩⟩⟩⟩⟩⟩)
@[go_sem] theorem jg2 : EqT pp 45 [some .i64, some .i64, some .i64, some .i64] := j9q (by kernel_rfl) (by kernel_rfl) (by kernel_rfl)
attribute [go_sem] Tryz.ntmps3 Tryz.results3 Tryz.ntmps4 Tryz.results4 Tryz.ntmps5 Tryz.results5 Tryz.ntmps6 Tryz.results6 Tryz.ntmps7 Tryz.results7 Tryz.ntmps8 Tryz.results8 Tryz.ntmps9 Tryz.results9 Tryz.ntmps10 Tryz.results10 Tryz.ntmps11 Tryz.results11 Tryz.ntmps12 Tryz.results12 Tryz.ntmps13 Tryz.results13 Tryz.ntmps14 Tryz.results14 Tryz.ntmps15 Tryz.results15 Tryz.ntmps16 Tryz.results16 Tryz.ntmps17 Tryz.results17 Tryz.ntmps18 Tryz.results18 Tryz.ntmps19 Tryz.results19 Tryz.ntmps20 Tryz.results20 Tryz.ntmps21 Tryz.results21 Tryz.ntmps22 Tryz.results22 Tryz.ntmps23 Tryz.results23 Tryz.ntmps24 Tryz.results24 Tryz.ntmps25 Tryz.results25 Tryz.ntmps26 Tryz.results26 Tryz.ntmps29 Tryz.results29 Tryz.ntmps30 Tryz.results30 Tryz.ntmps31 Tryz.results31 Tryz.ntmps32 Tryz.results32 Tryz.ntmps33 Tryz.results33 Tryz.ntmps34 Tryz.results34 Tryz.ntmps35 Tryz.results35 Tryz.ntmps36 Tryz.results36 Tryz.ntmps37 Tryz.results37 Tryz.ntmps38 Tryz.results38 Tryz.ntmps39 Tryz.results39 Tryz.ntmps40 Tryz.results40 Tryz.ntmps41 Tryz.results41 Tryz.ntmps53 Tryz.results53 Tryz.ntmps54 Tryz.results54 Tryz.ntmps55 Tryz.results55 Tryz.ntmps56 Tryz.results56 Tryz.ntmps57 Tryz.results57 Tryz.ntmps58 Tryz.results58 Tryz.ntmps59 Tryz.results59 Tryz.ntmps60 Tryz.results60 Tryz.ntmps61 Tryz.results61 Tryz.ntmps62 Tryz.results62 Tryz.ntmps63 Tryz.results63 Tryz.ntmps64 Tryz.results64 Tryz.ntmps65 Tryz.results65 Tryz.ntmps66 Tryz.results66 Tryz.ntmps67 Tryz.results67 Tryz.ntmps68 Tryz.results68 Tryz.ntmps69 Tryz.results69 Tryz.ntmps70 Tryz.results70 Tryz.ntmps71 Tryz.results71 Tryz.ntmps72 Tryz.results72 Tryz.ntmps73 Tryz.results73 Tryz.ntmps74 Tryz.results74 Tryz.ntmps75 Tryz.results75 Tryz.ntmps76 Tryz.results76 Tryz.ntmps77 Tryz.results77 Tryz.ntmps83 Tryz.results83 Tryz.ntmps84 Tryz.results84 Tryz.ntmps85 Tryz.results85 Tryz.ntmps86 Tryz.results86 Tryz.ntmps87 Tryz.results87 Tryz.ntmps88 Tryz.results88 Tryz.ntmps89 Tryz.results89 Tryz.ntmps90 Tryz.results90 Tryz.ntmps91 Tryz.results91 Tryz.ntmps92 Tryz.results92 Tryz.ntmps93 Tryz.results93 Tryz.ntmps94 Tryz.results94 Tryz.ntmps95 Tryz.results95 Tryz.ntmps96 Tryz.results96 Tryz.ntmps97 Tryz.results97 Tryz.ntmps98 Tryz.results98 Tryz.ntmps99 Tryz.results99 Tryz.ntmps100 Tryz.results100 Tryz.ntmps101 Tryz.results101 Tryz.ntmps102 Tryz.results102 Tryz.ntmps103 Tryz.results103 Tryz.ntmps104 Tryz.results104 Tryz.ntmps105 Tryz.results105 Tryz.ntmps107 Tryz.results107 Tryz.ntmps108 Tryz.results108 Tryz.ntmps109 Tryz.results109 Tryz.ntmps110 Tryz.results110 Tryz.ntmps111 Tryz.results111 Tryz.ntmps112 Tryz.results112 Tryz.ntmps113 Tryz.results113 Tryz.ntmps114 Tryz.results114 Tryz.ntmps115 Tryz.results115 Tryz.ntmps116 Tryz.results116 Tryz.ntmps117 Tryz.results117 Tryz.ntmps118 Tryz.results118 Tryz.ntmps119 Tryz.results119 Tryz.ntmps120 Tryz.results120 Tryz.ntmps121 Tryz.results121 Tryz.ntmps124 Tryz.results124 Tryz.ntmps125 Tryz.results125 Tryz.ntmps126 Tryz.results126 Tryz.ntmps127 Tryz.results127 Tryz.ntmps128 Tryz.results128 Tryz.ntmps129 Tryz.results129 Tryz.ntmps131 Tryz.results131 Tryz.ntmps135 Tryz.results135 Tryz.ntmps136 Tryz.results136 Tryz.ntmps137 Tryz.results137 Tryz.ntmps138 Tryz.results138 Tryz.ntmps139 Tryz.results139 Tryz.ntmps140 Tryz.results140 Tryz.ntmps141 Tryz.results141
def q8v (i_0 : Int) : Option Int :=
 (if (i_0 == 0) = true then some 1048576
 else some 64)
instance z7h (i_0 : Int) : Ct pp 83 (q8v i_0) [.v (.int .i64 i_0)] fun r => (.v (.int .i64 r)) := ctI Tryz.func83 rfl (by rw [q8v]; exact au1)
def qm9 (t_0 : GTime) (rec_1 : Int -> Option Bool) : Int -> Option Bool :=
 fun t15_1 =>
 (if (decide (t15_1 < 4)) = true then q9 (idx ([t_0.C.a0, t_0.C.a1, t_0.C.a2, t_0.C.a3] : List Int) t15_1) (fun xv_1 =>
 (if (decide (xv_1 < 0)) = true then some false
 else (if (decide (t15_1 < t_0.D)) = true then q9 (q8v t15_1) (fun v_2 =>
 (if ((decide (v_2 < xv_1)) || ((decide (t_0.D <= t15_1)) && (!(xv_1 == 0)))) = true then some false
 else rec_1 (i64.wrap (t15_1 + 1))))
 else (if ((decide (t_0.D <= t15_1)) && (!(xv_1 == 0))) = true then some false
 else rec_1 (i64.wrap (t15_1 + 1))))))
 else some true)
def q6y (t_0 : GTime) : Option Bool :=
 (if ((decide (t_0.D < 1)) || (decide (4 < t_0.D))) = true then some false
 else q05 (qm9 t_0) rounds 0)
instance zf9 (t_0 : GTime) : Ct pp 55 (q6y t_0) [.agg (Row.row t_0)] fun r => (.v (.bool r)) := ctK Tryz.func55 rfl (by rw [q6y]) (by
 intro r h F; refine sM ?_; refine sg fun _ Q2 => ?_; refine sM ?_; refine sB h (fun _ h => ?_) fun _ h => ?_
 . exact au
 .
  refine y9 (q8 Q2 (jg fun _ Q5 => ?_)); refine sM ?_; refine w9 fun _ Q7 => ?_; refine q0x h [1, 14] (fun t15_1 => ([(15, .v (.int .i64 t15_1))], [(0, .box (Row.row t_0))])) 1 ?_; rintro m_1 t15_1 h _ Q8; rw [qm9] at h; refine sM ?_; refine sg fun _ Q10 => ?_; refine sB h (fun _ h => ?_) fun _ h => ?_
  . refine y9 (q8 Q10 (sg fun _ Q11 => ?_)); refine w9 fun _ Q12 => ?_; refine sg fun _ Q13 => ?_; obtain ⟨xv_1, ex1, h⟩ := z8 h; obtain ⟨f1a, f1b, f1c, fxv_1d⟩ := j2b (f := (fun y => AV.v (.int .i64 y))) ex1; simp only [Xq, Xs, Xt, Xw, Xy, Xf, Xi, Xc, Xx, q6j] at f1b f1c fxv_1d; simp only [go_sem, f1a, f1b, f1c, fxv_1d]; refine ai ?_; refine ai ?_; simp only [Xp, X0, fxv_1d, Xu, Xr, true_and]; exact au
  . exact au)
def z19 (a_0 : GTime) (b_0 : GTime) : Option Bool :=
 q9 (q6y a_0) (fun v_0 =>
 (if v_0 = true then q9 (q6y b_0) (fun v_1 =>
 some (v_1 && (a_0.D == b_0.D)))
 else some false))
instance j94 (a_0 : GTime) (b_0 : GTime) : Ct pp 107 (z19 a_0 b_0) [.agg (Row.row a_0), .agg (Row.row b_0)] fun r => (.v (.bool r)) := ctI Tryz.func107 rfl (by rw [z19]; exact au1)
def qz5 (a_0 : GTime) (b_0 : GTime) (rec_1 : Int -> Option Bool) : Int -> Option Bool :=
 fun t10_1 =>
 (if (decide (t10_1 < 4)) = true then q03 (0 <= t10_1 /\ t10_1 < 4) (
 q9 (idx ([a_0.C.a0, a_0.C.a1, a_0.C.a2, a_0.C.a3] : List Int) t10_1) (fun xv_2 =>
 q03 (0 <= t10_1 /\ t10_1 < 4) (
 q9 (idx ([b_0.C.a0, b_0.C.a1, b_0.C.a2, b_0.C.a3] : List Int) t10_1) (fun xv_3 =>
 (if (decide (xv_3 < xv_2)) = true then some false
 else rec_1 (i64.wrap (t10_1 + 1)))))))
 else some true)
def z2j (a_0 : GTime) (b_0 : GTime) : Option Bool :=
 q9 (z19 a_0 b_0) (fun v_0 =>
 (if (!v_0) = true then some false
 else q05 (qz5 a_0 b_0) rounds 0))
instance j07 (a_0 : GTime) (b_0 : GTime) : Ct pp 84 (z2j a_0 b_0) [.agg (Row.row a_0), .agg (Row.row b_0)] fun r => (.v (.bool r)) := ctK Tryz.func84 rfl (by rw [z2j]) (by
 intro r h F; refine sM ?_; refine sg fun _ Q2 => ?_; refine sg fun _ Q3 => ?_; simp only [go_sem]; refine q6l h fun v_0 h => ?_; simp only [go_sem]; refine q8 Q3 (sB h (fun _ h => ?_) fun _ h => ?_)
 . exact au
 .
  refine y9 (q8 Q2 (jg fun _ Q5 => ?_)); refine sM ?_; refine w9 fun _ Q7 => ?_; refine q0x h [2, 3] (fun t10_1 => ([(10, .v (.int .i64 t10_1))], [(0, .box (Row.row a_0)), (1, .box (Row.row b_0))])) 2 ?_; rintro m_1 t10_1 h _ Q8; rw [qz5] at h; refine sM ?_; refine sg fun _ Q10 => ?_; refine sB h (fun _ h => ?_) fun _ h => ?_
  . refine y9 (q8 Q10 (sg fun _ Q11 => ?_)); refine w9 fun _ Q12 => ?_; refine sM ?_; refine sg fun _ Q14 => ?_; refine q0c ?_; refine jb1 ?_; obtain ⟨F, h⟩ := bG F h; obtain ⟨xv_2, ex2, h⟩ := z8 h; obtain ⟨f2a, f2b, f2c, fxv_2d⟩ := qt8 (f := (fun y => AV.v (.int .i64 y))) [.v (.int .i64 a_0.D)] [] ex2; simp only [Xq, Xs, Xt, Xw, Xy, Xf, Xi, Xc, Xx, q6j] at f2b f2c fxv_2d; obtain ⟨F, h⟩ := bG F h; obtain ⟨xv_3, ex3, h⟩ := z8 h; obtain ⟨f3a, f3b, f3c, fxv_3d⟩ := qt8 (f := (fun y => AV.v (.int .i64 y))) [.v (.int .i64 b_0.D)] [] ex3; simp only [Xq, Xs, Xt, Xw, Xy, Xf, Xi, Xc, Xx, q6j] at f3b f3c fxv_3d; simp only [go_sem, f2a, f2b, f2c, fxv_2d, f3a, f3b, f3c, fxv_3d, F]; refine ai ?_; refine ai ?_; simp only [Xp, X0, fxv_2d, Xu, Xr, true_and, Xp, X0, fxv_3d, Xu, Xr, true_and]; exact au
  . exact au)
def q2w (nv_0 : Int) (size_0 : Int) : Option Bool :=
 some ((decide (0 <= nv_0)) && (decide (nv_0 < size_0)))
instance j32 (nv_0 : Int) (size_0 : Int) : Ct pp 63 (q2w nv_0 size_0) [.v (.int .i64 nv_0), .v (.int .i64 size_0)] fun r => (.v (.bool r)) := ctI Tryz.func63 rfl (by rw [q2w]; exact au1)
def qo1 (g_0 : GGraph) (rec_1 : Int × Int -> Option Int) : Int × Int -> Option Int :=
 fun (d_1, s_1) =>
 q9 (q2w s_1 (g_0.Parent.length : Int)) (fun v_2 =>
 (if (v_2 && (decide (d_1 <= 8))) = true then q9 (idx g_0.Parent s_1) (fun xv_2 =>
 rec_1 (i64.wrap (d_1 + 1), xv_2))
 else some d_1))
def qm8 (g_0 : GGraph) (scope_0 : Int) : Option Int :=
 q05 (qo1 g_0) rounds (0, scope_0)
instance j4v (g_0 : GGraph) (scope_0 : Int) : Ct pp 64 (qm8 g_0 scope_0) [.agg (Row.row g_0), .v (.int .i64 scope_0)] fun r => (.v (.int .i64 r)) := ctK Tryz.func64 rfl (by rw [qm8]) (by
 intro r h F; refine sM ?_; refine sM ?_; refine jg fun _ Q3 => ?_; refine sM ?_; refine w9 fun _ Q5 => ?_; refine q0x h [2] (fun x => ([(5, .v (.int .i64 x.1)), (6, .v (.int .i64 x.2))], [(0, .box (Row.row g_0))])) 1 ?_; rintro m_1 ⟨d_1, s_1⟩ h _ Q6; rw [qo1] at h; exact au)
def qd2 (g_0 : GGraph) (s_0 : Int) : Option Bool :=
 (if (s_0 == 0) = true then q9 (idx g_0.Parent 0) (fun xv_0 =>
 (if (xv_0 == (-1)) = true then q9 (idx g_0.Bound 0) (fun xv_1 =>
 some (xv_1 == 0))
 else some false))
 else q9 (idx g_0.Parent s_0) (fun xv_2 =>
 q9 (q2w xv_2 s_0) (fun v_0 =>
 (if v_0 = true then q9 (idx g_0.Bound s_0) (fun xv_3 =>
 (if (decide (1 <= xv_3)) = true then (if (decide (xv_3 <= 64)) = true then q9 (qm8 g_0 s_0) (fun v_1 =>
 some (decide (v_1 <= 4)))
 else some false)
 else some false))
 else some false))))
instance j4q (g_0 : GGraph) (s_0 : Int) : Ct pp 35 (qd2 g_0 s_0) [.agg (Row.row g_0), .v (.int .i64 s_0)] fun r => (.v (.bool r)) := ctI Tryz.func35 rfl (by rw [qd2]; exact au1)
def qd9 (s_0 : List GNode) (f_0 : GNode -> Option Bool) (rec_1 : Int -> Option Int) : Int -> Option Int :=
 fun t8_1 =>
 (if (decide (t8_1 < (s_0.length : Int))) = true then q9 (idx s_0 t8_1) (fun xv_2 =>
 q9 (f_0 xv_2) (fun v_2 =>
 (if v_2 = true then some t8_1
 else rec_1 (i64.wrap (t8_1 + 1)))))
 else some (-1))
def q8o (s_0 : List GNode) (f_0 : GNode -> Option Bool) : Option Int :=
 q05 (qd9 s_0 f_0) rounds 0
theorem qx2 (s_0 : List GNode) (f_0 : GNode -> Option Bool) (g_f_0 : FuncId) (c_f_0 : List AV) (F_f_0 : q0f c_f_0 = true) (E_f_0 : q00 pp g_f_0 = true) (H_f_0 : ∀ (x0 : GNode) (r : Bool), f_0 x0 = some r -> PureS pp g_f_0 ([.agg (Row.row x0)] ++ c_f_0) 0 (.v (.bool r))) (r : Int) (h : q8o s_0 f_0 = some r) : PureS pp 118 [.sl 4 (enc s_0), .clo g_f_0 c_f_0] 0 (.v (.int .i64 r)) := by
 refine ptI Tryz.func118 rfl ?_; rw [q8o] at h; have F := trivial; refine sM ?_; refine jg fun _ Q2 => ?_; refine sM ?_; refine w9 fun _ Q4 => ?_; refine q0x h [0, 1, 7] (fun t8_1 => ([(8, .v (.int .i64 t8_1))], [])) 0 ?_; rintro m_1 t8_1 h _ Q5; rw [qd9] at h; refine sM ?_; refine sg fun _ Q7 => ?_; refine sB h (fun _ h => ?_) fun _ h => ?_
 .
  refine y9 (q8 Q7 (sg fun _ Q8 => ?_)); refine w9 fun _ Q9 => ?_; refine sM ?_; refine sg fun _ Q11 => ?_; obtain ⟨xv_2, F, h⟩ := bI F h; obtain ⟨v_2, ev_2, h⟩ := z8 h; simp only [go_sem, E_f_0, F]; refine ai ?_; refine q7w (H_f_0 xv_2 v_2 ev_2) (by rfl) (by simp [go_sem, q0f, q0k, F_f_0]) ?_; simp only [go_sem]; refine q8 Q11 (sB h (fun _ h => ?_) fun _ h => ?_)
  . refine sM ?_; refine q02 (q0m Q9 (q0s Q8 (q2b Q5 (q0m Q4 (q0s Q2 ?_))))); simp only [go_sem]; obtain rfl := Xj h; refine q2p rfl ?_; exact leA
  . refine y9 (q06 Q9 (q8 Q8 ?_)); simp only [go_sem]; refine u7 Q5 ?_; exact nxC _ h [] leA
 . refine q0q (q1p Q7 (q0r Q5 (q0i Q4 (q8 Q2 (sM ?_))))); refine q02 ?_; simp only [go_sem]; obtain rfl := Xj h; refine q2p rfl ?_; exact leA
def q5w (s_0 : List GNode) (f_0 : GNode -> Option Bool) : Option Bool :=
 q9 (q8o s_0 f_0) (fun v_0 =>
 some (decide (0 <= v_0)))
theorem qs4 (s_0 : List GNode) (f_0 : GNode -> Option Bool) (g_f_0 : FuncId) (c_f_0 : List AV) (F_f_0 : q0f c_f_0 = true) (E_f_0 : q00 pp g_f_0 = true) (H_f_0 : ∀ (x0 : GNode) (r : Bool), f_0 x0 = some r -> PureS pp g_f_0 ([.agg (Row.row x0)] ++ c_f_0) 0 (.v (.bool r))) (r : Bool) (h : q5w s_0 f_0 = some r) : PureS pp 94 [.sl 4 (enc s_0), .clo g_f_0 c_f_0] 0 (.v (.bool r)) := by
 refine ptI Tryz.func94 rfl ?_; rw [q5w] at h; have F := trivial; refine sM ?_; refine sg fun _ Q2 => ?_; obtain ⟨v_0, ev_0, h⟩ := z8 h; simp only [go_sem]; refine q7w (qx2 s_0 f_0 g_f_0 c_f_0 F_f_0 E_f_0 H_f_0 v_0 ev_0) (by rfl) (by simp [go_sem, q0f, q0k, F_f_0]) ?_; simp only [go_sem]; refine q8 Q2 (q02 ?_); simp only [go_sem]; obtain rfl := Xj h; refine q2p rfl ?_; exact leA
def q88 (xv_0 : GNode) (cap_0 : Int) : Option Bool :=
 some (xv_0.Scope == cap_0)
instance z3y (xv_0 : GNode) (cap_0 : Int) : Ct pp 95 (q88 xv_0 cap_0) [.agg (Row.row xv_0), .el 1 [[.v (.int .i64 cap_0)]] 0 0] fun r => (.v (.bool r)) := ctI Tryz.func95 rfl (by rw [q88]; exact au1)
def q7j (g_0 : GGraph) (nv_0 : Int) (xv_0 : GNode) (fresh_2 : Bool) : Option Bool :=
 (if fresh_2 = true then q03 (0 <= 0 /\ 0 <= nv_0 /\ nv_0 <= (g_0.Nodes.length : Int)) (
 q9 (q5w (Xb (nv_0.toNat) g_0.Nodes) (fun x0_ => q88 x0_ xv_0.Scope)) (fun v_0 =>
 some (!v_0)))
 else some false)
def ql7 (g_0 : GGraph) (nv_0 : Int) (xv_0 : GNode) (xv_2 : Int) (rec_2 : Bool × Int -> Option Bool) : Bool × Int -> Option Bool :=
 fun (fresh_4, p_3) =>
 (if (decide (0 <= p_3)) = true then (if (p_3 == xv_0.Scope) = true then some true
 else q9 (idx g_0.Parent p_3) (fun xv_8 =>
 rec_2 ((fresh_4 || (p_3 == xv_2)), xv_8)))
 else q7j g_0 nv_0 xv_0 fresh_4)
def q9s (g_0 : GGraph) (nv_0 : Int) : Option Bool :=
 q9 (idx g_0.Nodes nv_0) (fun xv_0 =>
 (if (nv_0 == 0) = true then some (xv_0.Scope == 0)
 else q9 (idx g_0.Nodes (i64.wrap (nv_0 - 1))) (fun xv_1 =>
 q9 (idx g_0.Parent xv_0.Scope) (fun xv_2 =>
 q05 (ql7 g_0 nv_0 xv_0 xv_2) rounds (false, xv_1.Scope)))))
instance j33 (g_0 : GGraph) (nv_0 : Int) : Ct pp 66 (q9s g_0 nv_0) [.agg (Row.row g_0), .v (.int .i64 nv_0)] fun r => (.v (.bool r)) := ctK Tryz.func66 rfl (by rw [q9s]) (by
 intro r h F; refine sM ?_; refine sg fun _ Q2 => ?_; obtain ⟨xv_0, F, h⟩ := bI F h; simp only [go_sem, F]; refine ai ?_; refine q8 Q2 (sg fun _ Q3 => ?_); refine sM ?_; refine sB h (fun _ h => ?_) fun _ h => ?_
 . exact au
 .
  refine y9 (q8 Q3 (sg fun _ Q6 => ?_)); obtain ⟨xv_1, F, h⟩ := bI F h; simp only [go_sem, F]; refine ai ?_; refine q8 Q6 (sg fun _ Q7 => ?_); obtain ⟨xv_2, F, h⟩ := bI F h; simp only [go_sem, F]; refine ai ?_; refine q8 Q7 (sM ?_); refine q52 (fun (fresh_2 : Bool) => q7j g_0 nv_0 xv_0 fresh_2 = some r) [1, 2, 5] (fun fresh_2 => ([(8, .v (.bool fresh_2))], [(0, .box (Row.row g_0)), (1, .box [.v (.int .i64 xv_0.Scope)])])) 2 ?_ ?_
  . intro _ Q10; refine sM ?_; refine w9 fun _ Q12 => ?_; refine q0x h [1, 2, 5, 7] (fun x => ([(8, .v (.bool x.1)), (9, .v (.int .i64 x.2))], [(0, .box (Row.row g_0)), (1, .box [.v (.int .i64 xv_0.Scope)])])) 2 ?_; rintro m_2 ⟨fresh_4, p_3⟩ h _ Q13; rw [ql7] at h; exact au
  .
   rintro fresh_2 h
   try dsimp only at h
   rw [q7j] at h; refine sg fun _ Q9 => ?_; simp only [go_sem]; rcases hb_7 : fresh_2 with _ | _
   . replace h := q2l h hb_7; simp only [go_sem, hb_7]; exact au
   . replace h := q2k h hb_7; obtain ⟨F, h⟩ := bG F h; obtain ⟨v_0, ev_0, h⟩ := z8 h; simp only [go_sem, hb_7, F]; refine z2n (qs4 (Xb (nv_0.toNat) g_0.Nodes) (fun x0_ => q88 x0_ xv_0.Scope) 95 [.el 1 [[.v (.int .i64 xv_0.Scope)]] 0 0] (by rfl) (by kernel_rfl) (fun y0 r_ e_ => z3y y0 xv_0.Scope r_ e_) v_0 ev_0) ?_; simp only [go_sem]; exact au)
def qi5 (op_0 : Int) : Option Bool :=
 some ((op_0 == 14) || (op_0 == 15))
instance j5u (op_0 : Int) : Ct pp 96 (qi5 op_0) [.v (.int .i64 op_0)] fun r => (.v (.bool r)) := ctI Tryz.func96 rfl (by rw [qi5]; exact au1)
def q7f (p_0 : List GIns) (rec_1 : Int -> Option Bool) : Int -> Option Bool :=
 fun t10_1 =>
 (if (decide (t10_1 < (p_0.length : Int))) = true then q9 (idx p_0 t10_1) (fun xv_2 =>
 (if ((decide (xv_2.Op < 1)) || (decide (16 < xv_2.Op))) = true then some false
 else q9 (qi5 xv_2.Op) (fun v_2 =>
 (if v_2 = true then (if ((decide (xv_2.N < 0)) || (decide ((p_0.length : Int) < xv_2.N))) = true then some false
 else rec_1 (i64.wrap (t10_1 + 1)))
 else (if ((!(xv_2.Op == 1)) && (!(xv_2.N == 0))) = true then some false
 else rec_1 (i64.wrap (t10_1 + 1)))))))
 else some true)
def q77 (p_0 : List GIns) : Option Bool :=
 (if (decide (64 < (p_0.length : Int))) = true then some false
 else q05 (q7f p_0) rounds 0)
instance j5v (p_0 : List GIns) : Ct pp 67 (q77 p_0) [.sl 2 (enc p_0)] fun r => (.v (.bool r)) := ctK Tryz.func67 rfl (by rw [q77]) (by
 intro r h F; refine sM ?_; refine sg fun _ Q2 => ?_; refine sM ?_; refine sB h (fun _ h => ?_) fun _ h => ?_
 . exact au
 . refine y9 (q8 Q2 (jg fun _ Q5 => ?_)); refine sM ?_; refine w9 fun _ Q7 => ?_; refine q0x h [0, 8, 9] (fun t10_1 => ([(10, .v (.int .i64 t10_1))], [])) 0 ?_; rintro m_1 t10_1 h _ Q8; rw [q7f] at h; exact au)
def qk0 (kind_0 : Int) : Option (Bool × Bool) :=
 some ((((kind_0 == 10) || (kind_0 == 11)) || (kind_0 == 12)), ((kind_0 == 1) || (kind_0 == 15)))
instance j34 (kind_0 : Int) : Ct pp 65 (qk0 kind_0) [.v (.int .i64 kind_0)] fun r => (.tup [.v (.bool r.1), .v (.bool r.2)]) := ctI Tryz.func65 rfl (by rw [qk0]; exact au1)
def qh9 (g_0 : GGraph) (nv_0 : Int) : Option Int :=
 q9 (idx g_0.Nodes nv_0) (fun xv_0 =>
 q9 (qk0 xv_0.Kind) (fun v_0 =>
 (if ((decide (xv_0.Kind < 1)) || (decide (15 < xv_0.Kind))) = true then some 1
 else q9 (q2w xv_0.Scope (g_0.Parent.length : Int)) (fun v_1 =>
 (if (((!v_1) || (v_0.1 && (xv_0.Scope == 0))) || (v_0.2 && (!(xv_0.Scope == 0)))) = true then some 6
 else q9 (q9s g_0 nv_0) (fun v_2 =>
 (if (!v_2) = true then some 6
 else (if (((xv_0.Kind == 4) && (decide (xv_0.Arg < 1))) || (((!(xv_0.Kind == 4)) && (!(xv_0.Kind == 3))) && (!(xv_0.Arg == 0)))) = true then some 1
 else q9 (q77 xv_0.Prog) (fun v_3 =>
 (if ((!v_3) || ((!(xv_0.Kind == 2)) && (decide (0 < (xv_0.Prog.length : Int))))) = true then some 13
 else some 0))))))))))
instance j5p (g_0 : GGraph) (nv_0 : Int) : Ct pp 36 (qh9 g_0 nv_0) [.agg (Row.row g_0), .v (.int .i64 nv_0)] fun r => (.v (.int .i64 r)) := ctI Tryz.func36 rfl (by rw [qh9]; exact au1)
def q8u (kind_0 : Int) : Option Int :=
 (if ((kind_0 == 5) || (kind_0 == 9)) = true then some 2
 else (if ((decide (1 < kind_0)) && (decide (kind_0 <= 15))) = true then some 1
 else some 0))
instance j4u (kind_0 : Int) : Ct pp 68 (q8u kind_0) [.v (.int .i64 kind_0)] fun r => (.v (.int .i64 r)) := ctI Tryz.func68 rfl (by rw [q8u]; exact au1)
def qd4 (g_0 : GGraph) (xv_0 : GNode) : Option Int :=
 (if (xv_0.Kind == 11) = true then q9 (idx g_0.Parent xv_0.Scope) (fun xv_1 =>
 some xv_1)
 else some xv_0.Scope)
instance j4s (g_0 : GGraph) (xv_0 : GNode) : Ct pp 69 (qd4 g_0 xv_0) [.agg (Row.row g_0), .agg (Row.row xv_0)] fun r => (.v (.int .i64 r)) := ctI Tryz.func69 rfl (by rw [qd4]; exact au1)
def qd1 (g_0 : GGraph) (xv_0 : GNode) : Option Int :=
 (if (xv_0.Kind == 10) = true then q9 (idx g_0.Parent xv_0.Scope) (fun xv_1 =>
 some xv_1)
 else some xv_0.Scope)
instance j4p (g_0 : GGraph) (xv_0 : GNode) : Ct pp 70 (qd1 g_0 xv_0) [.agg (Row.row g_0), .agg (Row.row xv_0)] fun r => (.v (.int .i64 r)) := ctI Tryz.func70 rfl (by rw [qd1]; exact au1)
def qd3 (kind_0 : Int) : Option Bool :=
 some (((decide (6 <= kind_0)) && (decide (kind_0 <= 9))) || (kind_0 == 14))
instance j4r (kind_0 : Int) : Ct pp 71 (qd3 kind_0) [.v (.int .i64 kind_0)] fun r => (.v (.bool r)) := ctI Tryz.func71 rfl (by rw [qd3]; exact au1)
def qe1 (s_0 : List GEdge) (f_0 : GEdge -> Option Bool) (rec_1 : Int -> Option Int) : Int -> Option Int :=
 fun t8_1 =>
 (if (decide (t8_1 < (s_0.length : Int))) = true then q9 (idx s_0 t8_1) (fun xv_2 =>
 q9 (f_0 xv_2) (fun v_2 =>
 (if v_2 = true then some t8_1
 else rec_1 (i64.wrap (t8_1 + 1)))))
 else some (-1))
def q8q (s_0 : List GEdge) (f_0 : GEdge -> Option Bool) : Option Int :=
 q05 (qe1 s_0 f_0) rounds 0
theorem qx4 (s_0 : List GEdge) (f_0 : GEdge -> Option Bool) (g_f_0 : FuncId) (c_f_0 : List AV) (F_f_0 : q0f c_f_0 = true) (E_f_0 : q00 pp g_f_0 = true) (H_f_0 : ∀ (x0 : GEdge) (r : Bool), f_0 x0 = some r -> PureS pp g_f_0 ([.agg (Row.row x0)] ++ c_f_0) 0 (.v (.bool r))) (r : Int) (h : q8q s_0 f_0 = some r) : PureS pp 119 [.sl 4 (enc s_0), .clo g_f_0 c_f_0] 0 (.v (.int .i64 r)) := by
 refine ptI Tryz.func119 rfl ?_; rw [q8q] at h; have F := trivial; refine sM ?_; refine jg fun _ Q2 => ?_; refine sM ?_; refine w9 fun _ Q4 => ?_; refine q0x h [0, 1, 7] (fun t8_1 => ([(8, .v (.int .i64 t8_1))], [])) 0 ?_; rintro m_1 t8_1 h _ Q5; rw [qe1] at h; refine sM ?_; refine sg fun _ Q7 => ?_; refine sB h (fun _ h => ?_) fun _ h => ?_
 .
  refine y9 (q8 Q7 (sg fun _ Q8 => ?_)); refine w9 fun _ Q9 => ?_; refine sM ?_; refine sg fun _ Q11 => ?_; obtain ⟨xv_2, F, h⟩ := bI F h; obtain ⟨v_2, ev_2, h⟩ := z8 h; simp only [go_sem, E_f_0, F]; refine ai ?_; refine q7w (H_f_0 xv_2 v_2 ev_2) (by rfl) (by simp [go_sem, q0f, q0k, F_f_0]) ?_; simp only [go_sem]; refine q8 Q11 (sB h (fun _ h => ?_) fun _ h => ?_)
  . refine sM ?_; refine q02 (q0m Q9 (q0s Q8 (q2b Q5 (q0m Q4 (q0s Q2 ?_))))); simp only [go_sem]; obtain rfl := Xj h; refine q2p rfl ?_; exact leA
  . refine y9 (q06 Q9 (q8 Q8 ?_)); simp only [go_sem]; refine u7 Q5 ?_; exact nxC _ h [] leA
 . refine q0q (q1p Q7 (q0r Q5 (q0i Q4 (q8 Q2 (sM ?_))))); refine q02 ?_; simp only [go_sem]; obtain rfl := Xj h; refine q2p rfl ?_; exact leA
def q5y (s_0 : List GEdge) (f_0 : GEdge -> Option Bool) : Option Bool :=
 q9 (q8q s_0 f_0) (fun v_0 =>
 some (decide (0 <= v_0)))
theorem qs6 (s_0 : List GEdge) (f_0 : GEdge -> Option Bool) (g_f_0 : FuncId) (c_f_0 : List AV) (F_f_0 : q0f c_f_0 = true) (E_f_0 : q00 pp g_f_0 = true) (H_f_0 : ∀ (x0 : GEdge) (r : Bool), f_0 x0 = some r -> PureS pp g_f_0 ([.agg (Row.row x0)] ++ c_f_0) 0 (.v (.bool r))) (r : Bool) (h : q5y s_0 f_0 = some r) : PureS pp 97 [.sl 4 (enc s_0), .clo g_f_0 c_f_0] 0 (.v (.bool r)) := by
 refine ptI Tryz.func97 rfl ?_; rw [q5y] at h; have F := trivial; refine sM ?_; refine sg fun _ Q2 => ?_; obtain ⟨v_0, ev_0, h⟩ := z8 h; simp only [go_sem]; refine q7w (qx4 s_0 f_0 g_f_0 c_f_0 F_f_0 E_f_0 H_f_0 v_0 ev_0) (by rfl) (by simp [go_sem, q0f, q0k, F_f_0]) ?_; simp only [go_sem]; refine q8 Q2 (q02 ?_); simp only [go_sem]; obtain rfl := Xj h; refine q2p rfl ?_; exact leA
def qd5 (e_0 : GEdge) (cap_0 : Int) (cap_1 : Int) : Option Bool :=
 some ((e_0.To == cap_0) && (e_0.Port == cap_1))
instance z7g (e_0 : GEdge) (cap_0 : Int) (cap_1 : Int) : Ct pp 98 (qd5 e_0 cap_0 cap_1) [.agg (Row.row e_0), .el 1 [[.v (.int .i64 cap_0)]] 0 0, .el 1 [[.v (.int .i64 cap_1)]] 0 0] fun r => (.v (.bool r)) := ctI Tryz.func98 rfl (by rw [qd5]; exact au1)
def qf0 (l_0 : List GEdge) (node_0 : Int) (port_0 : Int) : Option Bool :=
 q9 (q5y l_0 (fun x0_ => qd5 x0_ node_0 port_0)) (fun v_0 =>
 some v_0)
instance j7a (l_0 : List GEdge) (node_0 : Int) (port_0 : Int) : Ct pp 72 (qf0 l_0 node_0 port_0) [.sl 4 (enc l_0), .v (.int .i64 node_0), .v (.int .i64 port_0)] fun r => (.v (.bool r)) := ctK Tryz.func72 rfl (by rw [qf0]) (by
 intro r h F; refine sM ?_; refine sg fun _ Q2 => ?_; obtain ⟨v_0, ev_0, h⟩ := z8 h; simp only [go_sem]; refine z2n (qs6 l_0 (fun x0_ => qd5 x0_ node_0 port_0) 98 [.el 1 [[.v (.int .i64 node_0)]] 0 0, .el 1 [[.v (.int .i64 port_0)]] 0 0] (by rfl) (by kernel_rfl) (fun y0 r_ e_ => z7g y0 node_0 port_0 r_ e_) v_0 ev_0) ?_; simp only [go_sem]; exact au)
def qi1 (g_0 : GGraph) (nv_0 : Int) : Option Int :=
 q9 (idx g_0.Edges nv_0) (fun xv_0 =>
 q9 (q2w xv_0.From (g_0.Nodes.length : Int)) (fun v_0 =>
 (if v_0 = true then q9 (q2w xv_0.To (g_0.Nodes.length : Int)) (fun v_1 =>
 (if (!v_1) = true then some 7
 else q9 (idx g_0.Nodes xv_0.From) (fun xv_1 =>
 q9 (idx g_0.Nodes xv_0.To) (fun xv_2 =>
 (if (xv_1.Kind == 15) = true then some 7
 else q9 (q8u xv_2.Kind) (fun v_2 =>
 q9 (q2w xv_0.Port v_2) (fun v_3 =>
 (if (!v_3) = true then some 7
 else q9 (qd4 g_0 xv_1) (fun v_4 =>
 q9 (qd1 g_0 xv_2) (fun v_5 =>
 (if (!(v_4 == v_5)) = true then some 6
 else (if ((decide (xv_0.To <= xv_0.From)) && (!(xv_1.Kind == 12))) = true then some 8
 else q9 (qd3 xv_2.Kind) (fun v_6 =>
 (if (v_6 && (!xv_0.Exchange)) = true then some 1
 else q03 (0 <= 0 /\ 0 <= nv_0 /\ nv_0 <= (g_0.Edges.length : Int)) (
 q9 (qf0 (Xb (nv_0.toNat) g_0.Edges) xv_0.To xv_0.Port) (fun v_7 =>
 (if v_7 = true then some 7
 else some 0)))))))))))))))))
 else some 7)))
instance j5r (g_0 : GGraph) (nv_0 : Int) : Ct pp 37 (qi1 g_0 nv_0) [.agg (Row.row g_0), .v (.int .i64 nv_0)] fun r => (.v (.int .i64 r)) := ctK Tryz.func37 rfl (by rw [qi1]) (by
 intro r h F; refine sM ?_; refine sg fun _ Q2 => ?_; obtain ⟨xv_0, F, h⟩ := bI F h; simp only [go_sem, F]; refine ai ?_; refine q8 Q2 (sg fun _ Q3 => ?_); refine sg fun _ Q4 => ?_; simp only [go_sem]; refine q6l h fun v_0 h => ?_; simp only [go_sem]; rcases hb_0 : v_0 with _ | _
 . replace h := q2l h hb_0; simp only [go_sem, hb_0]; exact au
 .
  replace h := q2k h hb_0; simp only [go_sem, hb_0]; refine q6l h fun v_1 h => ?_; simp only [go_sem]; refine q8 Q4 (sB h (fun _ h => ?_) fun _ h => ?_)
  . exact au
  . refine y9 (q8 Q3 (sg fun _ Q7 => ?_)); refine q0c ?_; refine q3v 15 0 14 [0, 1, 0, 4, 15, 31, 0, 64, 0, 256, 960, 1984, 0, 0, 12351, 32767] [2, 3] [0, 1, 2, 3, 4, 5, 6, 7, 8, 9, 10, 11] [] [14] [12, 13] mixed (by kernel_rfl) (of_decide_eq_true (by kernel_rfl)) (by kernel_rfl) (by kernel_rfl) (by rfl) ?_; obtain ⟨xv_1, F, h⟩ := bI F h; obtain ⟨xv_2, F, h⟩ := bI F h; simp only [go_sem, F]; refine ai ?_; refine ai ?_; exact au)
def qg0 (g_0 : GGraph) (nv_0 : Int) (v_0 : Int) (rec_1 : Int -> Option Bool) : Int -> Option Bool :=
 fun t13_1 =>
 (if (decide (t13_1 < v_0)) = true then q9 (qf0 g_0.Edges nv_0 t13_1) (fun v_3 =>
 (if (!v_3) = true then some false
 else rec_1 (i64.wrap (t13_1 + 1))))
 else some true)
def qi0 (g_0 : GGraph) (nv_0 : Int) : Option Bool :=
 q9 (idx g_0.Nodes nv_0) (fun xv_0 =>
 q9 (q8u xv_0.Kind) (fun v_0 =>
 q05 (qg0 g_0 nv_0 v_0) rounds 0))
instance j5q (g_0 : GGraph) (nv_0 : Int) : Ct pp 38 (qi0 g_0 nv_0) [.agg (Row.row g_0), .v (.int .i64 nv_0)] fun r => (.v (.bool r)) := ctK Tryz.func38 rfl (by rw [qi0]) (by
 intro r h F; refine sM ?_; refine jg fun _ Q2 => ?_; refine sg fun _ Q3 => ?_; obtain ⟨xv_0, F, h⟩ := bI F h; simp only [go_sem, F]; refine ai ?_; refine q6l h fun v_0 h => ?_; simp only [go_sem]; refine q8 Q3 (w9 fun _ Q4 => ?_); refine q0x h [1, 2, 12] (fun t13_1 => ([(13, .v (.int .i64 t13_1))], [(0, .box (Row.row g_0))])) 1 ?_; rintro m_1 t13_1 h _ Q5; rw [qg0] at h; exact au)
def qo0 (g_0 : GGraph) (s_0 : Int) (rec_1 : Int -> Option Bool) : Int -> Option Bool :=
 fun p_1 =>
 (if (decide (0 <= p_1)) = true then (if (p_1 == s_0) = true then some true
 else q9 (idx g_0.Parent p_1) (fun xv_3 =>
 rec_1 xv_3))
 else some false)
def qd0 (g_0 : GGraph) (s_0 : Int) (of_0 : Int) : Option Bool :=
 q9 (idx g_0.Parent of_0) (fun xv_0 =>
 q05 (qo0 g_0 s_0) rounds xv_0)
instance j4o (g_0 : GGraph) (s_0 : Int) (of_0 : Int) : Ct pp 74 (qd0 g_0 s_0 of_0) [.agg (Row.row g_0), .v (.int .i64 s_0), .v (.int .i64 of_0)] fun r => (.v (.bool r)) := ctK Tryz.func74 rfl (by rw [qd0]) (by
 intro r h F; refine sM ?_; refine jg fun _ Q2 => ?_; refine sg fun _ Q3 => ?_; obtain ⟨xv_0, F, h⟩ := bI F h; simp only [go_sem, F]; refine ai ?_; refine q8 Q3 (w9 fun _ Q4 => ?_); refine q0x h [1, 3] (fun p_1 => ([(7, .v (.int .i64 p_1))], [(0, .box (Row.row g_0))])) 1 ?_; rintro m_1 p_1 h _ Q5; rw [qo0] at h; exact au)
def q3x (fromv_0 : Int) (cap_0 : GGraph) (self : Int -> GGraph -> (List Bool) -> Int -> Option (GGraph × (List Bool) × Int)) (rec_1 : Int × GGraph × Int × (List Bool) -> Option (GGraph × (List Bool) × Int)) : Int × GGraph × Int × (List Bool) -> Option (GGraph × (List Bool) × Int) :=
 fun (t12_1, b_2, b_3, a_1) =>
 (if (decide (t12_1 < (cap_0.Edges.length : Int))) = true then q9 (idx cap_0.Edges t12_1) (fun xv_6 =>
 (if (xv_6.From == fromv_0) = true then q9 (idx a_1 xv_6.To) (fun xv_7 =>
 (if xv_7 = true then rec_1 (i64.wrap (t12_1 + 1), b_2, b_3, a_1)
 else q9 (idx b_2.Nodes xv_6.To) (fun xv_8 =>
 (if (xv_8.Kind == 12) = true then q9 (qd0 b_2 xv_8.Scope b_3) (fun v_7 =>
 (if (!v_7) = true then q9 (self xv_6.To b_2 (Xo a_1 (xv_6.To.toNat) true) b_3) (fun v_8 =>
 rec_1 (i64.wrap (t12_1 + 1), v_8.1, v_8.2.2, v_8.2.1))
 else rec_1 (i64.wrap (t12_1 + 1), b_2, b_3, (Xo a_1 (xv_6.To.toNat) true))))
 else q9 (self xv_6.To b_2 (Xo a_1 (xv_6.To.toNat) true) b_3) (fun v_6 =>
 rec_1 (i64.wrap (t12_1 + 1), v_6.1, v_6.2.2, v_6.2.1))))))
 else rec_1 (i64.wrap (t12_1 + 1), b_2, b_3, a_1)))
 else some (b_2, a_1, b_3))
def q2s (self : Int -> GGraph -> (List Bool) -> Int -> Option (GGraph × (List Bool) × Int)) (fromv_0 : Int) (cap_0 : GGraph) (cap_1 : List Bool) (cap_2 : Int) : Option (GGraph × (List Bool) × Int) :=
 q05 (q3x fromv_0 cap_0 self) rounds (0, cap_0, cap_2, cap_1)
def q13 : Nat -> Int -> GGraph -> (List Bool) -> Int -> Option (GGraph × (List Bool) × Int)
 | 0 => fun _ _ _ _ => none
 | n + 1 => q2s (q13 n)
def q9l (fromv_0 : Int) (cap_0 : GGraph) (cap_1 : List Bool) (cap_2 : Int) : Option (GGraph × (List Bool) × Int) := q13 rounds fromv_0 cap_0 cap_1 cap_2
theorem qk1 (self : Int -> GGraph -> (List Bool) -> Int -> Option (GGraph × (List Bool) × Int)) (Hself : ∀ (fromv_0 : Int) (cap_0 : GGraph) (cap_1 : List Bool) (cap_2 : Int)  (r : GGraph × (List Bool) × Int), self fromv_0 cap_0 cap_1 cap_2 = some r -> DetS pp 73 [.v (.int .i64 fromv_0), .ptr 0 0, .ptr 1 0, .ptr 3 0, .ptr 4 0] [(0, .box (Row.row cap_0)), (1, .box [.osl 2 1 (0) (cap_1.length)]), (2, .arr 1 (enc cap_1)), (3, .box [.v (.int .i64 cap_2)]), (4, .box [.clo 73 [.ptr 0 0, .ptr 1 0, .ptr 3 0, .ptr 4 0]])] 5 (.tup []) [(0, .box (Row.row r.1)), (1, .box [.osl 5 1 (0) (r.2.1.length)]), (3, .box [.v (.int .i64 r.2.2)]), (4, .box [.clo 73 [.ptr 0 0, .ptr 1 0, .ptr 3 0, .ptr 4 0]]), (5, .arr 1 (enc r.2.1))] 6) (fromv_0 : Int) (cap_0 : GGraph) (cap_1 : List Bool) (cap_2 : Int)  (r : GGraph × (List Bool) × Int) (h : q2s self fromv_0 cap_0 cap_1 cap_2 = some r) : DetS pp 73 [.v (.int .i64 fromv_0), .ptr 0 0, .ptr 1 0, .ptr 3 0, .ptr 4 0] [(0, .box (Row.row cap_0)), (1, .box [.osl 2 1 (0) (cap_1.length)]), (2, .arr 1 (enc cap_1)), (3, .box [.v (.int .i64 cap_2)]), (4, .box [.clo 73 [.ptr 0 0, .ptr 1 0, .ptr 3 0, .ptr 4 0]])] 5 (.tup []) [(0, .box (Row.row r.1)), (1, .box [.osl 5 1 (0) (r.2.1.length)]), (3, .box [.v (.int .i64 r.2.2)]), (4, .box [.clo 73 [.ptr 0 0, .ptr 1 0, .ptr 3 0, .ptr 4 0]]), (5, .arr 1 (enc r.2.1))] 6 := by
 refine dtI Tryz.func73 rfl ?_; rw [q2s] at h; have F := trivial; refine sM ?_; refine w9 fun _ Q2 => ?_; refine q0x h [0, 1, 2, 3, 4, 10, 11] (fun x => ([(12, .v (.int .i64 x.1))], [(0, .box (Row.row x.2.1)), (1, .box [.osl 5 1 (0) (x.2.2.2.length)]), (3, .box [.v (.int .i64 x.2.2.1)]), (4, .box [.clo 73 [.ptr 0 0, .ptr 1 0, .ptr 3 0, .ptr 4 0]]), (5, .arr 1 (enc x.2.2.2))])) 6 ?_; rintro m_1 ⟨t12_1, b_2, b_3, a_1⟩ h _ Q3; rw [q3x] at h; refine sM ?_; refine sg fun _ Q5 => ?_; refine sB h (fun _ h => ?_) fun _ h => ?_
 .
  refine y9 (q8 Q5 (jg fun _ Q6 => ?_)); refine w9 fun _ Q7 => ?_; refine sg fun _ Q8 => ?_; obtain ⟨xv_6, F, h⟩ := bI F h; simp only [go_sem, F]; refine ai ?_; refine q8 Q8 (sg fun _ Q9 => ?_); refine sg fun _ Q10 => ?_; simp only [go_sem]; rcases hb_11 : (xv_6.From == fromv_0) with _ | _
  . replace h := q2l h hb_11; simp only [go_sem, hb_11]; exact au
  .
   replace h := q2k h hb_11; obtain ⟨xv_7, F, h⟩ := bI F h; simp only [go_sem, hb_11, F]; refine ai ?_; refine q8 Q10 (sB h (fun _ h => ?_) fun _ h => ?_)
   . exact au
   .
    refine y9 (q8 Q9 (sg fun _ Q11 => ?_)); have rf_2 : (enc a_1).set (xv_6.To.toNat) [.v (.bool true)] = enc (Xo a_1 (xv_6.To.toNat) true) := by exact qf4 _ _ _
    simp only [go_sem, rf_2, F]; refine ai ?_; refine q8 Q11 (sg fun _ Q12 => ?_); obtain ⟨xv_8, F, h⟩ := bI F h; simp only [go_sem, F]; refine ai ?_; refine q8 Q12 (sg fun _ Q13 => ?_); simp only [go_sem]; rcases hb_13 : (xv_8.Kind == 12) with _ | _
    . replace h := q2l h hb_13; simp only [go_sem, hb_13]; refine q8 Q13 (jg3 ?_); obtain ⟨v_6, ev_6, h⟩ := z8 h; simp only [go_sem]; refine qf6 [0, 1, 2, 3, 4, 10, 11, 12, 21, 22, 23, 25] ([], [(0, .box (Row.row b_2)), (1, .box [.osl 5 1 (0) (Xg (Xo a_1 (xv_6.To.toNat) true))]), (3, .box [.v (.int .i64 b_3)]), (4, .box [.clo 73 [.ptr 0 0, .ptr 1 0, .ptr 3 0, .ptr 4 0]]), (5, .arr 1 (enc (Xo a_1 (xv_6.To.toNat) true))), (6, .box (Row.row xv_6)), (7, .box (Row.row xv_8))]) 8 [some 5, some 6, some 7] [.v (.int .i64 xv_6.To), .ptr 0 0, .ptr 1 0, .ptr 3 0, .ptr 4 0] ?_; refine q20 [0, 1, 5, 3, 4] (Hself xv_6.To b_2 (Xo a_1 (xv_6.To.toNat) true) b_3 v_6 ev_6) ?_; simp only [go_sem]; exact au
    .
     replace h := q2k h hb_13; simp only [go_sem, hb_13]; refine q6l h fun v_7 h => ?_; simp only [go_sem]; refine q8 Q13 (sB h (fun _ h => ?_) fun _ h => ?_)
     . obtain ⟨v_8, ev_8, h⟩ := z8 h; simp only [go_sem]; refine qf6 [0, 1, 2, 3, 4, 10, 11, 12, 21, 22, 23, 25, 41, 42, 43, 44, 45, 46] ([], [(0, .box (Row.row b_2)), (1, .box [.osl 5 1 (0) (Xg (Xo a_1 (xv_6.To.toNat) true))]), (3, .box [.v (.int .i64 b_3)]), (4, .box [.clo 73 [.ptr 0 0, .ptr 1 0, .ptr 3 0, .ptr 4 0]]), (5, .arr 1 (enc (Xo a_1 (xv_6.To.toNat) true))), (6, .box (Row.row xv_6)), (7, .box (Row.row xv_8))]) 8 [some 5, some 6, some 7] [.v (.int .i64 xv_6.To), .ptr 0 0, .ptr 1 0, .ptr 3 0, .ptr 4 0] ?_; refine q20 [0, 1, 5, 3, 4] (Hself xv_6.To b_2 (Xo a_1 (xv_6.To.toNat) true) b_3 v_8 ev_8) ?_; simp only [go_sem]; exact au
     . exact au
 . exact au
theorem q7e : ∀ (n : Nat) (fromv_0 : Int) (cap_0 : GGraph) (cap_1 : List Bool) (cap_2 : Int)  (r : GGraph × (List Bool) × Int), q13 n fromv_0 cap_0 cap_1 cap_2 = some r -> DetS pp 73 [.v (.int .i64 fromv_0), .ptr 0 0, .ptr 1 0, .ptr 3 0, .ptr 4 0] [(0, .box (Row.row cap_0)), (1, .box [.osl 2 1 (0) (cap_1.length)]), (2, .arr 1 (enc cap_1)), (3, .box [.v (.int .i64 cap_2)]), (4, .box [.clo 73 [.ptr 0 0, .ptr 1 0, .ptr 3 0, .ptr 4 0]])] 5 (.tup []) [(0, .box (Row.row r.1)), (1, .box [.osl 5 1 (0) (r.2.1.length)]), (3, .box [.v (.int .i64 r.2.2)]), (4, .box [.clo 73 [.ptr 0 0, .ptr 1 0, .ptr 3 0, .ptr 4 0]]), (5, .arr 1 (enc r.2.1))] 6
  | 0, fromv_0, cap_0, cap_1, cap_2, r, h => by simp [q13] at h
  | n + 1, fromv_0, cap_0, cap_1, cap_2, r, h => qk1 (q13 n) (q7e n) fromv_0 cap_0 cap_1 cap_2  r h
theorem qm4 (fromv_0 : Int) (cap_0 : GGraph) (cap_1 : List Bool) (cap_2 : Int)  (r : GGraph × (List Bool) × Int) (h : q9l fromv_0 cap_0 cap_1 cap_2 = some r) : DetS pp 73 [.v (.int .i64 fromv_0), .ptr 0 0, .ptr 1 0, .ptr 3 0, .ptr 4 0] [(0, .box (Row.row cap_0)), (1, .box [.osl 2 1 (0) (cap_1.length)]), (2, .arr 1 (enc cap_1)), (3, .box [.v (.int .i64 cap_2)]), (4, .box [.clo 73 [.ptr 0 0, .ptr 1 0, .ptr 3 0, .ptr 4 0]])] 5 (.tup []) [(0, .box (Row.row r.1)), (1, .box [.osl 5 1 (0) (r.2.1.length)]), (3, .box [.v (.int .i64 r.2.2)]), (4, .box [.clo 73 [.ptr 0 0, .ptr 1 0, .ptr 3 0, .ptr 4 0]]), (5, .arr 1 (enc r.2.1))] 6 := q7e rounds fromv_0 cap_0 cap_1 cap_2  r h
def qb0 (g_0 : GGraph) (nv_0 : Int) (rec_1 : Int × Int × (List Bool) × GGraph -> Option Bool) : Int × Int × (List Bool) × GGraph -> Option Bool :=
 fun (t31_1, b_2, a_1, b_3) =>
 (if (decide (t31_1 < (g_0.Nodes.length : Int))) = true then q9 (idx g_0.Nodes t31_1) (fun xv_5 =>
 (if ((xv_5.Kind == 11) && (xv_5.Scope == b_2)) = true then q9 (q9l t31_1 b_3 a_1 b_2) (fun v_2 =>
 rec_1 (i64.wrap (t31_1 + 1), v_2.2.2, v_2.2.1, v_2.1))
 else rec_1 (i64.wrap (t31_1 + 1), b_2, a_1, b_3)))
 else q9 (idx a_1 nv_0) (fun xv_6 =>
 some xv_6))
def qd6 (g_0 : GGraph) (nv_0 : Int) : Option Bool :=
 q9 (idx g_0.Nodes nv_0) (fun xv_0 =>
 (if (!(xv_0.Kind == 10)) = true then some false
 else q03 (0 <= (g_0.Nodes.length : Int) /\ (g_0.Nodes.length : Int) * 1 <= 140737488355328) (
 q05 (qb0 g_0 nv_0) rounds (0, xv_0.Scope, (Xv (g_0.Nodes.length) false), g_0))))
instance j4t (g_0 : GGraph) (nv_0 : Int) : Ct pp 39 (qd6 g_0 nv_0) [.agg (Row.row g_0), .v (.int .i64 nv_0)] fun r => (.v (.bool r)) := ctK Tryz.func39 rfl (by rw [qd6]) (by
 intro r h F; refine sM ?_; refine sg fun _ Q2 => ?_; obtain ⟨xv_0, F, h⟩ := bI F h; simp only [go_sem, F]; refine ai ?_; refine q8 Q2 (sg fun _ Q3 => ?_); refine sg fun _ Q4 => ?_; simp only [go_sem, F]; refine ai ?_; refine q8 Q4 (sB h (fun _ h => ?_) fun _ h => ?_)
 . exact au
 .
  refine y9 (q8 Q3 (sg fun _ Q6 => ?_)); obtain ⟨F, h⟩ := bG F h; have rf_0 : Xv (g_0.Nodes.length) [.v (.bool false)] = enc (Xv (g_0.Nodes.length) false) := by (simp [enc, z5i, z2s, qa4, q6j]; done)
  simp only [go_sem, F]; simp only [rf_0]; refine q8 Q6 (sM ?_); refine sM ?_; refine jg fun _ Q9 => ?_; refine sM ?_; refine w9 fun _ Q11 => ?_; refine q0x h [1, 29, 30] (fun x => ([(5, .ptr 0 0), (6, .ptr 1 0), (7, .ptr 2 0), (31, .v (.int .i64 x.1))], [(0, .box [.v (.int .i64 x.2.1)]), (1, .box [.osl 3 1 (0) (x.2.2.1.length)]), (2, .box [.clo 73 [.ptr 4 0, .ptr 1 0, .ptr 0 0, .ptr 2 0]]), (3, .arr 1 (enc x.2.2.1)), (4, .box (Row.row x.2.2.2))])) 5 ?_; rintro m_1 ⟨t31_1, b_2, a_1, b_3⟩ h _ Q12; rw [qb0] at h; refine sM ?_; refine sg fun _ Q14 => ?_; refine sB h (fun _ h => ?_) fun _ h => ?_
  .
   refine y9 (q8 Q14 (jg fun _ Q15 => ?_)); refine w9 fun _ Q16 => ?_; refine sg fun _ Q17 => ?_; obtain ⟨xv_5, F, h⟩ := bI F h; simp only [go_sem, F]; refine ai ?_; refine q8 Q17 (sM ?_); refine sB h (fun _ h => ?_) fun _ h => ?_
   . obtain ⟨v_2, ev_2, h⟩ := z8 h; simp only [go_sem]; refine q20 [4, 1, 3, 0, 2] (qm4 t31_1 b_3 a_1 b_2 v_2 ev_2) ?_; simp only [go_sem]; exact au
   . exact au
  . exact au)
def qb5 (g_0 : GGraph) (rec_5 : Int -> Option (Int × Int)) : Int -> Option (Int × Int) :=
 fun t101_1 =>
 (if (decide (t101_1 < (g_0.Nodes.length : Int))) = true then q9 (qd6 g_0 t101_1) (fun v_14 =>
 (if v_14 = true then some (8, t101_1)
 else rec_5 (i64.wrap (t101_1 + 1))))
 else some (0, 0))
def q89 (g_0 : GGraph) : Option (Int × Int) :=
 q05 (qb5 g_0) rounds 0
def qb4 (g_0 : GGraph) (rec_6 : Int -> Option (Int × Int)) : Int -> Option (Int × Int) :=
 fun t89_3 =>
 (if (decide (t89_3 < (g_0.Nodes.length : Int))) = true then q9 (qi0 g_0 t89_3) (fun v_17 =>
 (if (!v_17) = true then some (7, t89_3)
 else rec_6 (i64.wrap (t89_3 + 1))))
 else q89 g_0)
def q8a (g_0 : GGraph) : Option (Int × Int) :=
 q05 (qb4 g_0) rounds 0
def qb3 (g_0 : GGraph) (rec_7 : Int -> Option (Int × Int)) : Int -> Option (Int × Int) :=
 fun t75_3 =>
 (if (decide (t75_3 < (g_0.Edges.length : Int))) = true then q9 (qi1 g_0 t75_3) (fun v_20 =>
 (if (!(v_20 == 0)) = true then some (v_20, t75_3)
 else rec_7 (i64.wrap (t75_3 + 1))))
 else q8a g_0)
def q8b (g_0 : GGraph) : Option (Int × Int) :=
 q05 (qb3 g_0) rounds 0
def qb2 (g_0 : GGraph) (rec_8 : Int -> Option (Int × Int)) : Int -> Option (Int × Int) :=
 fun t61_3 =>
 (if (decide (t61_3 < (g_0.Nodes.length : Int))) = true then q9 (qh9 g_0 t61_3) (fun v_23 =>
 (if (!(v_23 == 0)) = true then some (v_23, t61_3)
 else rec_8 (i64.wrap (t61_3 + 1))))
 else q8b g_0)
def q8c (g_0 : GGraph) : Option (Int × Int) :=
 (if (((decide ((g_0.Nodes.length : Int) < 1)) || (decide (32 < (g_0.Nodes.length : Int)))) || (decide (64 < (g_0.Edges.length : Int)))) = true then some (11, 0)
 else q05 (qb2 g_0) rounds 0)
def qb1 (g_0 : GGraph) (rec_9 : Int -> Option (Int × Int)) : Int -> Option (Int × Int) :=
 fun t33_3 =>
 (if (decide (t33_3 < (g_0.Parent.length : Int))) = true then q9 (qd2 g_0 t33_3) (fun v_26 =>
 (if (!v_26) = true then some (6, t33_3)
 else rec_9 (i64.wrap (t33_3 + 1))))
 else q8c g_0)
def qd7 (g_0 : GGraph) : Option (Int × Int) :=
 (if (((decide ((g_0.Parent.length : Int) < 1)) || (decide (8 < (g_0.Parent.length : Int)))) || (!((g_0.Bound.length : Int) == (g_0.Parent.length : Int)))) = true then some (6, 0)
 else q05 (qb1 g_0) rounds 0)
instance j4w (g_0 : GGraph) : Ct pp 23 (qd7 g_0) [.agg (Row.row g_0)] fun r => (.tup [.v (.int .i64 r.1), .v (.int .i64 r.2)]) := ctK Tryz.func23 rfl (by rw [qd7]) (by
 intro r h F; refine sM ?_; refine sg fun _ Q2 => ?_; refine sM ?_; refine sB h (fun _ h => ?_) fun _ h => ?_
 . exact au
 .
  refine y9 (q8 Q2 (q52 (fun (_ : Unit) => q8c g_0 = some r) [1] (fun _ => ([], [(0, .box (Row.row g_0))])) 1 ?_ ?_))
  . intro _ Q55; refine sM ?_; refine w9 fun _ Q57 => ?_; refine q0x h [1, 32] (fun t33_3 => ([(33, .v (.int .i64 t33_3))], [(0, .box (Row.row g_0))])) 1 ?_; rintro m_9 t33_3 h _ Q58; rw [qb1] at h; exact au
  .
   rintro ⟨⟩ h
   try dsimp only at h
   rw [q8c] at h; refine sg fun _ Q5 => ?_; refine sM ?_; refine sB h (fun _ h => ?_) fun _ h => ?_
   . exact au
   .
    refine y9 (q8 Q5 (q52 (fun (_ : Unit) => q8b g_0 = some r) [1] (fun _ => ([], [(0, .box (Row.row g_0))])) 1 ?_ ?_))
    . intro _ Q43; refine sM ?_; refine w9 fun _ Q45 => ?_; refine q0x h [1, 60] (fun t61_3 => ([(61, .v (.int .i64 t61_3))], [(0, .box (Row.row g_0))])) 1 ?_; rintro m_8 t61_3 h _ Q46; rw [qb2] at h; exact au
    .
     rintro ⟨⟩ h
     try dsimp only at h
     rw [q8b] at h; refine q52 (fun (_ : Unit) => q8a g_0 = some r) [1] (fun _ => ([], [(0, .box (Row.row g_0))])) 1 ?_ ?_
     . intro _ Q31; refine sM ?_; refine w9 fun _ Q33 => ?_; refine q0x h [1, 74] (fun t75_3 => ([(75, .v (.int .i64 t75_3))], [(0, .box (Row.row g_0))])) 1 ?_; rintro m_7 t75_3 h _ Q34; rw [qb3] at h; exact au
     .
      rintro ⟨⟩ h
      try dsimp only at h
      rw [q8a] at h; refine q52 (fun (_ : Unit) => q89 g_0 = some r) [1] (fun _ => ([], [(0, .box (Row.row g_0))])) 1 ?_ ?_
      . intro _ Q20; refine sM ?_; refine w9 fun _ Q22 => ?_; refine q0x h [1, 88] (fun t89_3 => ([(89, .v (.int .i64 t89_3))], [(0, .box (Row.row g_0))])) 1 ?_; rintro m_6 t89_3 h _ Q23; rw [qb4] at h; exact au
      .
       rintro ⟨⟩ h
       try dsimp only at h
       rw [q89] at h; refine jg fun _ Q8 => ?_; refine sM ?_; refine w9 fun _ Q10 => ?_; refine q0x h [1, 100] (fun t101_1 => ([(101, .v (.int .i64 t101_1))], [(0, .box (Row.row g_0))])) 1 ?_; rintro m_5 t101_1 h _ Q11; rw [qb5] at h; exact au)
def q7k (xv_0 : Int) : Option Bool :=
 some (!(xv_0 == xv_0))
instance j09 (xv_0 : Int) : Ct pp 129 (q7k xv_0) [.v (.int .i64 xv_0)] fun r => (.v (.bool r)) := ctI Tryz.func129 rfl (by rw [q7k]; exact au1)
def q5t (xv_0 : Int) (y_0 : Int) : Option Int :=
 q9 (q7k xv_0) (fun v_0 =>
 q9 (q7k y_0) (fun v_1 =>
 (if v_0 = true then (if v_1 = true then some 0
 else some (-1))
 else (if v_1 = true then some 1
 else (if (decide (xv_0 < y_0)) = true then some (-1)
 else (if (decide (y_0 < xv_0)) = true then some 1
 else some 0))))))
instance z1v (xv_0 : Int) (y_0 : Int) : Ct pp 121 (q5t xv_0 y_0) [.v (.int .i64 xv_0), .v (.int .i64 y_0)] fun r => (.v (.int .i64 r)) := ctI Tryz.func121 rfl (by rw [q5t]; exact au1)
def qg2 (vals_0 : List Int) (rec_1 : Int -> Option Int) : Int -> Option Int :=
 fun t8_1 =>
 (if (decide (t8_1 < (vals_0.length : Int))) = true then q9 (idx vals_0 t8_1) (fun xv_2 =>
 (if (!(xv_2 == 0)) = true then some xv_2
 else rec_1 (i64.wrap (t8_1 + 1))))
 else some 0)
def qi7 (vals_0 : List Int) : Option Int :=
 q05 (qg2 vals_0) rounds 0
instance z92 (vals_0 : List Int) : Ct pp 120 (qi7 vals_0) [.sl 1 (enc vals_0)] fun r => (.v (.int .i64 r)) := ctK Tryz.func120 rfl (by rw [qi7]) (by
 intro r h F; refine sM ?_; refine sM ?_; refine jg fun _ Q3 => ?_; refine sM ?_; refine w9 fun _ Q5 => ?_; refine q0x h [3, 6, 7] (fun t8_1 => ([(8, .v (.int .i64 t8_1))], [])) 0 ?_; rintro m_1 t8_1 h _ Q6; rw [qg2] at h; exact au)
def qf2 (a_0 : GRec) (b_0 : GRec) : Option Int :=
 q9 (q5t a_0.K b_0.K) (fun v_0 =>
 q9 (q5t a_0.V b_0.V) (fun v_1 =>
 q9 (qi7 ([v_0, v_1] : List Int)) (fun v_2 =>
 some v_2)))
instance j7c (a_0 : GRec) (b_0 : GRec) : Ct pp 103 (qf2 a_0 b_0) [.agg (Row.row a_0), .agg (Row.row b_0)] fun r => (.v (.int .i64 r)) := ctK Tryz.func103 rfl (by rw [qf2]) (by
 intro r h F; refine sM ?_; refine sg fun _ Q2 => ?_; refine q0c ?_; refine jb1 ?_; obtain ⟨v_0, ev_0, h⟩ := z8 h; simp only [go_sem]; refine callq (fun _ => (z1v a_0.K b_0.K v_0 ev_0)) (by rfl) (by rfl) ?_; simp only [go_sem]; refine q6l h fun v_1 h => ?_; have rf_0 : [[.v (.int .i64 v_0)], [.v (.int .i64 v_1)]] = enc ([v_0, v_1] : List Int) := by rfl
 obtain ⟨v_2, ev_2, h⟩ := z8 h; simp only [go_sem]; simp only [rf_0]; refine z2n (z92 ([v_0, v_1] : List Int) v_2 ev_2) ?_; simp only [go_sem]; exact au)
def qr9 (a_0 : GRec) (b_0 : GRec) : Option Bool :=
 q9 (qf2 a_0 b_0) (fun v_0 =>
 some (decide (v_0 < 0)))
instance j81 (a_0 : GRec) (b_0 : GRec) : Ct pp 100 (qr9 a_0 b_0) [.agg (Row.row a_0), .agg (Row.row b_0)] fun r => (.v (.bool r)) := ctI Tryz.func100 rfl (by rw [qr9]; exact au1)
def q3y (xv_0 : List GItem) (target_0 : GRec) (cmp_0 : GItem -> GRec -> Option Int) (i_2 : Int) : Option (Int × Bool) :=
 (if (decide (i_2 < (xv_0.length : Int))) = true then q9 (idx xv_0 i_2) (fun xv_4 =>
 q9 (cmp_0 xv_4 target_0) (fun v_3 =>
 some (i_2, (v_3 == 0))))
 else some (i_2, false))
def q61 (xv_0 : List GItem) (target_0 : GRec) (cmp_0 : GItem -> GRec -> Option Int) (rec_2 : Int × Int -> Option (Int × Bool)) : Int × Int -> Option (Int × Bool) :=
 fun (i_4, j_3) =>
 (if (decide (i_4 < j_3)) = true then q9 (idx xv_0 (i64.wrap (q29 .u64 (IntKind.u64.wrap (i64.wrap (i_4 + j_3))) 1))) (fun xv_7 =>
 q9 (cmp_0 xv_7 target_0) (fun v_6 =>
 (if (decide (v_6 < 0)) = true then rec_2 (i64.wrap ((i64.wrap (q29 .u64 (IntKind.u64.wrap (i64.wrap (i_4 + j_3))) 1)) + 1), j_3)
 else rec_2 (i_4, i64.wrap (q29 .u64 (IntKind.u64.wrap (i64.wrap (i_4 + j_3))) 1)))))
 else q3y xv_0 target_0 cmp_0 i_4)
def q36 (xv_0 : List GItem) (target_0 : GRec) (cmp_0 : GItem -> GRec -> Option Int) : Option (Int × Bool) :=
 q05 (q61 xv_0 target_0 cmp_0) rounds (0, (xv_0.length : Int))
theorem qo2 (xv_0 : List GItem) (target_0 : GRec) (cmp_0 : GItem -> GRec -> Option Int) (g_cmp_0 : FuncId) (c_cmp_0 : List AV) (F_cmp_0 : q0f c_cmp_0 = true) (E_cmp_0 : q00 pp g_cmp_0 = true) (H_cmp_0 : ∀ (x0 : GItem) (x1 : GRec) (r : Int), cmp_0 x0 x1 = some r -> PureS pp g_cmp_0 ([.agg (Row.row x0), .agg (Row.row x1)] ++ c_cmp_0) 0 (.v (.int .i64 r))) (r : Int × Bool) (h : q36 xv_0 target_0 cmp_0 = some r) : PureS pp 101 [.sl 3 (enc xv_0), .agg (Row.row target_0), .clo g_cmp_0 c_cmp_0] 0 (.tup [.v (.int .i64 r.1), .v (.bool r.2)]) := by
 refine ptI Tryz.func101 rfl ?_; rw [q36] at h; have F := trivial; refine sM ?_; refine sM ?_; refine sM ?_; refine q52 (fun (i_2 : Int) => q3y xv_0 target_0 cmp_0 i_2 = some r) [0, 2, 4, 8] (fun i_2 => ([(9, .v (.int .i64 i_2))], [(0, .box (Row.row target_0))])) 1 ?_ ?_
 .
  intro _ Q5; refine w9 fun _ Q6 => ?_; refine q0x h [0, 2, 4, 8] (fun x => ([(9, .v (.int .i64 x.1)), (10, .v (.int .i64 x.2))], [(0, .box (Row.row target_0))])) 1 ?_; rintro m_2 ⟨i_4, j_3⟩ h _ Q7; rw [q61] at h; refine sg fun _ Q8 => ?_; refine sM ?_; refine sB h (fun _ h => ?_) fun _ h => ?_
  .
   refine y9 (q8 Q8 (w9 fun _ Q10 => ?_)); refine sM ?_; refine sg fun _ Q12 => ?_; refine q0c ?_; refine jb1 ?_; obtain ⟨xv_7, F, h⟩ := bI F h; obtain ⟨v_6, ev_6, h⟩ := z8 h; simp only [go_sem, E_cmp_0, F]; refine ai ?_; refine q7w (H_cmp_0 xv_7 target_0 v_6 ev_6) (by rfl) (by simp [go_sem, q0f, q0k, F_cmp_0]) ?_; simp only [go_sem]; refine q8 Q12 (sB h (fun _ h => ?_) fun _ h => ?_)
   . simp only [go_sem]; refine q06 Q10 (u7 Q7 ?_); exact nxC _ h [some 0] leA
   . simp only [go_sem]; refine q06 Q10 (u7 Q7 ?_); exact nxC _ h [some 0] leA
  . refine q0q (q1p Q8 (q0r Q7 (q0i Q6 (u7 Q5 (⟨i_4, [some 0], ?_, h⟩))))); exact leA
 .
  rintro i_2 h
  try dsimp only at h
  rw [q3y] at h; refine sg fun _ Q4 => ?_; refine q0c ?_; refine jb1 ?_; simp only [go_sem]; rcases hb_6 : (decide (i_2 < (xv_0.length : Int))) with _ | _
  . replace h := q2l h hb_6; simp only [go_sem, hb_6]; refine q8 Q4 (q02 ?_); simp only [go_sem]; obtain rfl := Xj h; refine q2p rfl ?_; exact leA
  . replace h := q2k h hb_6; obtain ⟨xv_4, F, h⟩ := bI F h; obtain ⟨v_3, ev_3, h⟩ := z8 h; simp only [go_sem, hb_6, E_cmp_0, F]; refine ai ?_; refine ai ?_; refine callq (fun _ => (H_cmp_0 xv_4 target_0 v_3 ev_3)) (by rfl) (by simp [go_sem, q0f, q0k, F_cmp_0]) ?_; simp only [go_sem]; refine q8 Q4 (q02 ?_); simp only [go_sem]; obtain rfl := Xj h; refine q2p rfl ?_; exact leA
def q9h (xv_0 : GItem) (rv_0 : GRec) : Option Int :=
 q9 (qf2 xv_0.Rec rv_0) (fun v_0 =>
 some v_0)
instance za2 (xv_0 : GItem) (rv_0 : GRec) : Ct pp 102 (q9h xv_0 rv_0) [.agg (Row.row xv_0), .agg (Row.row rv_0)] fun r => (.v (.int .i64 r)) := ctI Tryz.func102 rfl (by rw [q9h]; exact au1)
def qi8 (nv_0 : Int) : Option Bool :=
 some ((decide ((-2147483648) <= nv_0)) && (decide (nv_0 <= 2147483648)))
instance j96 (nv_0 : Int) : Ct pp 99 (qi8 nv_0) [.v (.int .i64 nv_0)] fun r => (.v (.bool r)) := ctI Tryz.func99 rfl (by rw [qi8]; exact au1)
def qk8 (b_0 : List GItem) (rec_1 : Int -> Option Bool) : Int -> Option Bool :=
 fun t7_1 =>
 (if (decide (t7_1 < (b_0.length : Int))) = true then q9 (idx b_0 t7_1) (fun xv_4 =>
 (if (xv_4.N == 0) = true then some false
 else q9 (qi8 xv_4.N) (fun v_4 =>
 (if v_4 = true then (if (decide (0 < t7_1)) = true then q9 (idx b_0 (i64.wrap (t7_1 - 1))) (fun xv_5 =>
 q9 (qr9 xv_5.Rec xv_4.Rec) (fun v_5 =>
 (if (!v_5) = true then some false
 else rec_1 (i64.wrap (t7_1 + 1)))))
 else rec_1 (i64.wrap (t7_1 + 1)))
 else some false))))
 else some true)
def q72 (b_0 : List GItem) : Option Bool :=
 q05 (qk8 b_0) rounds 0
instance j7d (b_0 : List GItem) : Ct pp 76 (q72 b_0) [.sl 3 (enc b_0)] fun r => (.v (.bool r)) := ctK Tryz.func76 rfl (by rw [q72]) (by
 intro r h F; refine sM ?_; refine jg fun _ Q2 => ?_; refine sM ?_; refine w9 fun _ Q4 => ?_; refine q0x h [0, 5, 6] (fun t7_1 => ([(7, .v (.int .i64 t7_1))], [])) 0 ?_; rintro m_1 t7_1 h _ Q5; rw [qk8] at h; exact au)
def q4a (x_0 : List GItem) (i_0 : Int) (v_0 : List GItem) : Option (List GItem) := z9y 24 x_0 i_0 v_0
theorem ql8 : InsLay pp (j29 104 122 123 0 3 4 65 66) 3 24 (.agg #[.int .i64 0, .int .i64 0, .int .i64 0] : Value) := { mixed := by kernel_rfl, t0 := Tryz.underlying0, a0 := Tryz.isAgg0, z0 := Tryz.sizeOf0, v0 := Tryz.zeroValue0, t3 := Tryz.underlying3, a3 := Tryz.isAgg3, z3 := Tryz.sizeOf3, v3 := Tryz.zeroValue3, t4 := Tryz.underlying4, a4 := Tryz.isAgg4, z4 := Tryz.sizeOf4, v4 := Tryz.zeroValue4, t24 := Tryz.underlying66, a24 := Tryz.isAgg66, z24 := Tryz.sizeOf66, v24 := Tryz.zeroValue66, z9 := Tryz.sizeOf65, i9 := zu4 (by kernel_rfl), f22 := ⟨"slices.Insert[[]backwash/api.Item,backwash/api.Item]", by decide, by kernel_rfl⟩, ov := ⟨_, Tryz.func122, by kernel_rfl, by kernel_rfl, by kernel_rfl, by kernel_rfl⟩ }
theorem ql9 (x_0 : List GItem) (i_0 : Int) (v_0 : List GItem) (r : List GItem) (h : q4a x_0 i_0 v_0 = some r) : DetS pp 104 [.osl 0 3 0 (x_0.length), .v (.int .i64 i_0), .osl 1 3 0 (v_0.length)] [(0, .arr 3 (enc x_0)), (1, .arr 3 (enc v_0))] 2 (.osl 2 3 0 (r.length)) [(2, .arr 3 (enc r))] 3 :=
  j02 ql8 (by kernel_rfl) (by kernel_rfl) (by decide) (by rfl) (by decide) rfl (fun _ => rfl) h
def q7r (x_0 : List GItem) (i_0 : Int) (j_0 : Int) : Option (List GItem) := za8 x_0 i_0 j_0
theorem qs2 : DelLay pp (j29 105 0 0 0 3 4 65 66) 3 (.agg #[.int .i64 0, .int .i64 0, .int .i64 0] : Value) := { mixed := by kernel_rfl, t0 := Tryz.underlying0, a0 := Tryz.isAgg0, z0 := Tryz.sizeOf0, v0 := Tryz.zeroValue0, t3 := Tryz.underlying3, a3 := Tryz.isAgg3, z3 := Tryz.sizeOf3, v3 := Tryz.zeroValue3, t4 := Tryz.underlying4, a4 := Tryz.isAgg4, z4 := Tryz.sizeOf4, v4 := Tryz.zeroValue4, t24 := Tryz.underlying66, a24 := Tryz.isAgg66, z24 := Tryz.sizeOf66, v24 := Tryz.zeroValue66, z9 := Tryz.sizeOf65, v9 := Tryz.zeroValue65, i9 := j4k (b := 24) (by kernel_rfl), f24 := ⟨"slices.Delete[[]backwash/api.Item,backwash/api.Item]", by decide, by kernel_rfl⟩ }
theorem qs3 (x_0 : List GItem) (i_0 : Int) (j_0 : Int) (r : List GItem) (h : q7r x_0 i_0 j_0 = some r) : DetS pp 105 [.osl 0 3 0 (x_0.length), .v (.int .i64 i_0), .v (.int .i64 j_0)] [(0, .arr 3 (enc x_0))] 1 (.osl 1 3 0 (r.length)) [(1, .arr 3 (enc r))] 2 :=
  j0f qs2 (by kernel_rfl) (by decide) (by rfl) (by rfl) (fun _ => rfl) h
def q5s (s_0 : List GItem) : Option (List GItem) :=
 q03 ((Xg ([] : List GItem) + s_0.length) * 24 <= 140737488355328) (
 some (([] : List GItem) ++ s_0))
theorem ql3 (s_0 : List GItem)  (r : List GItem) (h : q5s s_0 = some r) : DetS pp 75 [.sl 3 (enc s_0)] [] 0 (.osl 0 3 (0) (r.length)) [(0, .arr 3 (enc r))] 1 := by
 refine dtI Tryz.func75 rfl ?_; rw [q5s] at h; have F := trivial; refine sM ?_; refine sg fun _ Q2 => ?_; refine sg fun _ Q3 => ?_; simp only [go_sem]; intro nb_0 hnb_0; rcases nb_0 with _ | _
 .
  refine q8 Q3 (jg4 ?_); refine y9 (q8 Q2 (sg fun _ Q4 => ?_)); obtain ⟨g_0, h⟩ := q0d h; have F := Xd F g_0; simp only [Xf, Xi, Xc, Xe] at g_0; have rf_0 : enc ([] : List GItem) ++ enc s_0 = enc (([] : List GItem) ++ s_0) := by exact (q5b ([] : List GItem) s_0).symm
  simp only [go_sem, g_0, rf_0]; exact au
 .
  have hE_nb_0 : s_0 = [] := by cases hq : (s_0) with | nil => rfl | cons y ys => exact absurd (hnb_0 (by rw [hq]; simp [enc])) (by simp)
  simp only [hE_nb_0] at h; exact au
def q6r (b_0 : List GItem) (rv_0 : GRec) (nv_0 : Int) : Option (List GItem) :=
 q9 (q36 b_0 rv_0 (fun x0_ x1_ => q9h x0_ x1_)) (fun v_0 =>
 (if (nv_0 == 0) = true then some b_0
 else q9 (qi8 nv_0) (fun v_1 =>
 (if (!v_1) = true then some b_0
 else (if (!v_0.2) = true then q9 (q4a b_0 v_0.1 ([(⟨rv_0, nv_0⟩ : GItem)] : List GItem)) (fun v_2 =>
 some v_2)
 else q9 (idx b_0 v_0.1) (fun xv_0 =>
 (if ((i64.wrap (xv_0.N + nv_0)) == 0) = true then q9 (q7r b_0 v_0.1 (i64.wrap (v_0.1 + 1))) (fun v_3 =>
 some v_3)
 else q9 (qi8 (i64.wrap (xv_0.N + nv_0))) (fun v_4 =>
 (if v_4 = true then some (Xo b_0 (v_0.1.toNat) (⟨xv_0.Rec, i64.wrap (xv_0.N + nv_0)⟩ : GItem))
 else some b_0)))))))))
theorem qw5 (b_0 : List GItem) (rv_0 : GRec) (nv_0 : Int)  (r : List GItem) (h : q6r b_0 rv_0 nv_0 = some r) : DetS pp 77 [.osl 0 3 (0) (b_0.length), .agg (Row.row rv_0), .v (.int .i64 nv_0)] [(0, .arr 3 (enc b_0))] 1 (.osl 1 3 (0) (r.length)) [(1, .arr 3 (enc r))] 2 := by
 refine dtI Tryz.func77 rfl ?_; rw [q6r] at h; have F := trivial; refine sM ?_; refine sg fun _ Q2 => ?_; obtain ⟨v_0, ev_0, h⟩ := z8 h; simp only [go_sem]; refine z2n (qo2 b_0 rv_0 (fun x0_ x1_ => q9h x0_ x1_) 102 [] (by rfl) (by kernel_rfl) (fun y0 y1 r_ e_ => za2 y0 y1 r_ e_) v_0 ev_0) ?_; simp only [go_sem]; refine q8 Q2 (jg fun _ Q3 => ?_); refine w9 fun _ Q4 => ?_; refine sg fun _ Q5 => ?_; simp only [go_sem]; rcases hb_0 : (nv_0 == 0) with _ | _
 .
  replace h := q2l h hb_0; simp only [go_sem, hb_0]; refine q6l h fun v_1 h => ?_; simp only [go_sem]; refine q8 Q5 (sB h (fun _ h => ?_) fun _ h => ?_)
  . exact au
  .
   refine sM ?_; refine sB h (fun _ h => ?_) fun _ h => ?_
   .
    refine sg fun _ Q8 => ?_; have rf_0 : [[.v (.int .i64 rv_0.K), .v (.int .i64 rv_0.V), .v (.int .i64 nv_0)]] = enc ([(⟨rv_0, nv_0⟩ : GItem)] : List GItem) := by rfl
    obtain ⟨v_2, ev_2, h⟩ := z8 h; simp only [go_sem]; simp only [rf_0]; refine q20 [0, 2] (ql9 b_0 v_0.1 ([(⟨rv_0, nv_0⟩ : GItem)] : List GItem) v_2 ev_2) ?_; simp only [go_sem]; exact au
   .
    refine sg fun _ Q9 => ?_; obtain ⟨xv_0, F, h⟩ := bI F h; simp only [go_sem, F]; refine ai ?_; refine q8 Q9 (sB h (fun _ h => ?_) fun _ h => ?_)
    . refine sg fun _ Q10 => ?_; obtain ⟨v_3, ev_3, h⟩ := z8 h; simp only [go_sem]; refine q20 [0] (qs3 b_0 v_0.1 (i64.wrap (v_0.1 + 1)) v_3 ev_3) ?_; simp only [go_sem]; exact au
    .
     refine sg fun _ Q11 => ?_; simp only [go_sem, F]; refine ai ?_; refine q6l h fun v_4 h => ?_; simp only [go_sem]; refine q8 Q11 (sB h (fun _ h => ?_) fun _ h => ?_)
     . have rf_1 := qf4 b_0 (v_0.1.toNat) (⟨xv_0.Rec, i64.wrap (xv_0.N + nv_0)⟩ : GItem); simp only [j1i] at rf_1; simp only [go_sem, rf_1, F]; refine ai ?_; refine ai ?_; exact au
     . exact au
 . replace h := q2k h hb_0; simp only [go_sem, hb_0]; exact au
def qw6 (b_0 : List GItem) (rv_0 : GRec) (nv_0 : Int) : Option (List GItem) :=
 q9 (q5s b_0) (fun v_0 =>
 q9 (q72 b_0) (fun v_1 =>
 (if (!v_1) = true then some v_0
 else q9 (q6r v_0 rv_0 nv_0) (fun v_2 =>
 some v_2))))
theorem zg2 (b_0 : List GItem) (rv_0 : GRec) (nv_0 : Int)  (r : List GItem) (h : qw6 b_0 rv_0 nv_0 = some r) : DetS pp 115 [.sl 3 (enc b_0), .agg (Row.row rv_0), .v (.int .i64 nv_0)] [] 0 (.osl 0 3 (0) (r.length)) [(0, .arr 3 (enc r))] 1 := by
 refine dtI Tryz.func115 rfl ?_; rw [qw6] at h; have F := trivial; refine sM ?_; refine sg fun _ Q2 => ?_; obtain ⟨v_0, ev_0, h⟩ := z8 h; simp only [go_sem]; refine q20 [] (ql3 b_0 v_0 ev_0) ?_; simp only [go_sem]; refine q8 Q2 (sg fun _ Q3 => ?_); refine sg fun _ Q4 => ?_; simp only [go_sem]; refine q6l h fun v_1 h => ?_; simp only [go_sem]; refine q8 Q4 (sB h (fun _ h => ?_) fun _ h => ?_)
 . exact au
 . refine y9 (q8 Q3 (sg fun _ Q6 => ?_)); obtain ⟨v_2, ev_2, h⟩ := z8 h; simp only [go_sem]; refine q20 [1] (qw5 v_0 rv_0 nv_0 v_2 ev_2) ?_; simp only [go_sem]; exact au
def qg3 (b_0 : List GItem) (times_0 : Int) (rec_1 : Int × (List GItem) -> Option (List GItem)) : Int × (List GItem) -> Option (List GItem) :=
 fun (t23_1, a_2) =>
 (if (decide (t23_1 < (b_0.length : Int))) = true then q9 (idx b_0 t23_1) (fun xv_2 =>
 q9 (q6r a_2 xv_2.Rec (i64.wrap (times_0 * xv_2.N))) (fun v_5 =>
 rec_1 (i64.wrap (t23_1 + 1), v_5)))
 else some a_2)
def qr7 (a_0 : List GItem) (b_0 : List GItem) (times_0 : Int) : Option (List GItem) :=
 q9 (q5s a_0) (fun v_0 =>
 q9 (q72 a_0) (fun v_1 =>
 (if v_1 = true then q9 (q72 b_0) (fun v_2 =>
 (if (!v_2) = true then some v_0
 else q05 (qg3 b_0 times_0) rounds (0, v_0)))
 else some v_0)))
theorem z7i (a_0 : List GItem) (b_0 : List GItem) (times_0 : Int)  (r : List GItem) (h : qr7 a_0 b_0 times_0 = some r) : DetS pp 41 [.sl 3 (enc a_0), .sl 3 (enc b_0), .v (.int .i64 times_0)] [] 0 (.osl 0 3 (0) (r.length)) [(0, .arr 3 (enc r))] 1 := by
 refine dtI Tryz.func41 rfl ?_; rw [qr7] at h; have F := trivial; refine sM ?_; refine sg fun _ Q2 => ?_; obtain ⟨v_0, ev_0, h⟩ := z8 h; simp only [go_sem]; refine q20 [] (ql3 a_0 v_0 ev_0) ?_; simp only [go_sem]; refine q8 Q2 (sg fun _ Q3 => ?_); refine sg fun _ Q4 => ?_; simp only [go_sem]; refine q6l h fun v_1 h => ?_; simp only [go_sem]; rcases hb_0 : v_1 with _ | _
 . replace h := q2l h hb_0; simp only [go_sem, hb_0]; exact au
 .
  replace h := q2k h hb_0; simp only [go_sem, hb_0]; refine q6l h fun v_2 h => ?_; simp only [go_sem]; refine q8 Q4 (sB h (fun _ h => ?_) fun _ h => ?_)
  . exact au
  .
   refine y9 (q8 Q3 (jg fun _ Q7 => ?_)); refine sM ?_; refine w9 fun _ Q9 => ?_; refine q0x h [2, 21, 22] (fun x => ([(7, .osl 0 3 (0) (x.2.length)), (23, .v (.int .i64 x.1))], [(0, .arr 3 (enc x.2))])) 1 ?_; rintro m_1 ⟨t23_1, a_2⟩ h _ Q10; rw [qg3] at h; refine sM ?_; refine sg fun _ Q12 => ?_; refine sB h (fun _ h => ?_) fun _ h => ?_
   . refine y9 (q8 Q12 (sg fun _ Q13 => ?_)); refine w9 fun _ Q14 => ?_; refine sg fun _ Q15 => ?_; obtain ⟨xv_2, F, h⟩ := bI F h; simp only [go_sem, F]; refine ai ?_; refine q8 Q15 ?_; obtain ⟨v_5, ev_5, h⟩ := z8 h; simp only [go_sem]; refine q20 [0] (qw5 a_2 xv_2.Rec (i64.wrap (times_0 * xv_2.N)) v_5 ev_5) ?_; simp only [go_sem]; exact au
   . exact au
def q4g (a_0 : List GItem) (b_0 : List GItem) : Option (List GItem) :=
 q9 (qr7 a_0 b_0 1) (fun v_0 =>
 some v_0)
theorem qu3 (a_0 : List GItem) (b_0 : List GItem)  (r : List GItem) (h : q4g a_0 b_0 = some r) : DetS pp 26 [.sl 3 (enc a_0), .sl 3 (enc b_0)] [] 0 (.osl 0 3 (0) (r.length)) [(0, .arr 3 (enc r))] 1 := by
 refine dtI Tryz.func26 rfl ?_; rw [q4g] at h; have F := trivial; refine sM ?_; refine sg fun _ Q2 => ?_; obtain ⟨v_0, ev_0, h⟩ := z8 h; simp only [go_sem]; refine q20 [] (z7i a_0 b_0 1 v_0 ev_0) ?_; simp only [go_sem]; exact au
instance z3u (a_0 : List GItem) (b_0 : List GItem) : Ct pp 26 (q4g a_0 b_0) [.sl 3 (enc a_0), .sl 3 (enc b_0)] fun r => (.sl 3 (enc r)) := ⟨fun r h => (qu3 a_0 b_0  r h).pure leA⟩
def qk6 (b_0 : List GItem) (a_2 : List GItem) : Option (List GItem) :=
 q9 (q72 b_0) (fun v_0 =>
 (if (!v_0) = true then some ([] : List GItem)
 else some a_2))
def qk7 (b_0 : List GItem) (rec_2 : Int × (List GItem) -> Option (List GItem)) : Int × (List GItem) -> Option (List GItem) :=
 fun (t8_3, a_4) =>
 (if (decide (t8_3 < (b_0.length : Int))) = true then q9 (idx b_0 t8_3) (fun xv_5 =>
 (if (decide (0 < xv_5.N)) = true then q03 ((a_4.length + Xg ([xv_5] : List GItem)) * 24 <= 140737488355328) (
 rec_2 (i64.wrap (t8_3 + 1), (a_4 ++ ([xv_5] : List GItem))))
 else rec_2 (i64.wrap (t8_3 + 1), a_4)))
 else qk6 b_0 a_4)
def qf3 (b_0 : List GItem) : Option (List GItem) :=
 q05 (qk7 b_0) rounds (0, [])
theorem z1a (b_0 : List GItem)  (r : List GItem) (h : qf3 b_0 = some r) : DetS pp 86 [.sl 3 (enc b_0)] [] 0 (.osl 0 3 (0) (r.length)) [(0, .arr 3 (enc r))] 1 := by
 refine dtI Tryz.func86 rfl ?_; rw [qf3] at h; have F := trivial; refine sM ?_; refine sM ?_; refine q52 (fun (a_2 : (List GItem)) => qk6 b_0 a_2 = some r) [0] (fun a_2 => ([(3, .osl 0 3 (0) (a_2.length))], [(0, .arr 3 (enc a_2))])) 1 ?_ ?_
 .
  intro _ Q7; refine sM ?_; refine w9 fun _ Q9 => ?_; refine q0x h [0, 6, 7] (fun x => ([(3, .osl 0 3 (0) (x.2.length)), (8, .v (.int .i64 x.1))], [(0, .arr 3 (enc x.2))])) 1 ?_; rintro m_2 ⟨t8_3, a_4⟩ h _ Q10; rw [qk7] at h; refine sM ?_; refine sg fun _ Q12 => ?_; refine sB h (fun _ h => ?_) fun _ h => ?_
  .
   refine y9 (q8 Q12 (jg fun _ Q13 => ?_)); refine w9 fun _ Q14 => ?_; refine sg fun _ Q15 => ?_; obtain ⟨xv_5, F, h⟩ := bI F h; simp only [go_sem, F]; refine ai ?_; refine q8 Q15 (sM ?_); refine sB h (fun _ h => ?_) fun _ h => ?_
   .
    have rf_8 : [[.v (.int .i64 xv_5.Rec.K), .v (.int .i64 xv_5.Rec.V), .v (.int .i64 xv_5.N)]] = enc ([xv_5] : List GItem) := by rfl
    obtain ⟨g_5, h⟩ := q0d h; have F := Xd F g_5; simp only [Xf, Xi, Xc, Xe] at g_5; have rf_9 : enc a_4 ++ [[.v (.int .i64 xv_5.Rec.K), .v (.int .i64 xv_5.Rec.V), .v (.int .i64 xv_5.N)]] = enc (a_4 ++ ([xv_5] : List GItem)) := by exact (q5b a_4 ([xv_5] : List GItem)).symm
    simp only [go_sem, g_5, rf_9]; simp only [rf_8]; exact au
   . exact au
  . exact au
 .
  rintro a_2 h
  try dsimp only at h
  rw [qk6] at h; exact au
def q0b (mv_0 : GProg_machine) (nv_0 : Int) : Option GProg_machine :=
 (if ((mv_0.stack.length : Int) == 8) = true then some (⟨mv_0.r, mv_0.stack, mv_0.out, mv_0.at_, 1⟩ : GProg_machine)
 else q03 ((mv_0.stack.length + Xg ([nv_0] : List Int)) * 8 <= 140737488355328) (
 some (⟨mv_0.r, (mv_0.stack ++ ([nv_0] : List Int)), mv_0.out, mv_0.at_, mv_0.bad⟩ : GProg_machine)))
theorem q0p (mv_0 : GProg_machine) (nv_0 : Int)  (r : GProg_machine) (h : q0b mv_0 nv_0 = some r) : DetS pp 138 [.ptr 0 0, .v (.int .i64 nv_0)] [(0, .box [.v (.int .i64 mv_0.r.K), .v (.int .i64 mv_0.r.V), .osl 1 1 (0) (mv_0.stack.length), .osl 2 2 (0) (mv_0.out.length), .v (.int .i64 mv_0.at_), .v (.int .i64 mv_0.bad)]), (1, .arr 1 (enc mv_0.stack)), (2, .arr 2 (enc mv_0.out))] 3 (.tup []) [(0, .box [.v (.int .i64 r.r.K), .v (.int .i64 r.r.V), .osl 3 1 (0) (r.stack.length), .osl 4 2 (0) (r.out.length), .v (.int .i64 r.at_), .v (.int .i64 r.bad)]), (3, .arr 1 (enc r.stack)), (4, .arr 2 (enc r.out))] 5 := by
 refine dtI Tryz.func138 rfl ?_; rw [q0b] at h; have F := trivial; refine sg fun _ Q1 => ?_; refine sM ?_; refine sB h (fun _ h => ?_) fun _ h => ?_
 . exact au
 .
  refine y9 (q8 Q1 ?_); have rf_0 : [[.v (.int .i64 nv_0)]] = enc ([nv_0] : List Int) := by rfl
  obtain ⟨g_0, h⟩ := q0d h; have F := Xd F g_0; simp only [Xf, Xi, Xc, Xe] at g_0; have rf_1 : enc mv_0.stack ++ [[.v (.int .i64 nv_0)]] = enc (mv_0.stack ++ ([nv_0] : List Int)) := by exact (q5b mv_0.stack ([nv_0] : List Int)).symm
  simp only [go_sem, g_0, rf_1]; simp only [rf_0]; obtain rfl := Xj h; refine q1w [some 4, some 2] ?_; exact leA
def q2f (mv_0 : GProg_machine) (xv_0 : GIns) : Option (Bool × GProg_machine) :=
 (if (xv_0.Op == 1) = true then q9 (q0b mv_0 xv_0.N) (fun v_0 =>
 some (true, v_0))
 else (if (xv_0.Op == 2) = true then q9 (q0b mv_0 mv_0.r.K) (fun v_1 =>
 some (true, v_1))
 else (if (xv_0.Op == 3) = true then q9 (q0b mv_0 mv_0.r.V) (fun v_2 =>
 some (true, v_2))
 else (if (xv_0.Op == 11) = true then (if (decide ((i64.wrap ((mv_0.stack.length : Int) - 1)) < 0)) = true then some (true, (⟨mv_0.r, mv_0.stack, mv_0.out, mv_0.at_, 1⟩ : GProg_machine))
 else q03 (0 <= i64.wrap ((mv_0.stack.length : Int) - 1) /\ i64.wrap ((mv_0.stack.length : Int) - 1) <= (mv_0.stack.length : Int) /\ (mv_0.stack.length : Int) <= (mv_0.stack.length : Int) /\ (mv_0.stack.length : Int) <= (mv_0.stack.length : Int)) (
 q03 (0 <= 0 /\ 0 <= i64.wrap ((mv_0.stack.length : Int) - 1) /\ i64.wrap ((mv_0.stack.length : Int) - 1) <= (mv_0.stack.length : Int)) (
 q03 (0 < Xa (mv_0.stack.length : Int) - Xa (i64.wrap ((mv_0.stack.length : Int) - 1))) (
 q9 (idx (Xb (Xa (mv_0.stack.length : Int) - Xa (i64.wrap ((mv_0.stack.length : Int) - 1))) (Xk (Xa (i64.wrap ((mv_0.stack.length : Int) - 1))) mv_0.stack)) 0) (fun xv_1 =>
 q9 (q0b (⟨mv_0.r, (Xb (Xa (i64.wrap ((mv_0.stack.length : Int) - 1))) mv_0.stack), mv_0.out, mv_0.at_, mv_0.bad⟩ : GProg_machine) xv_1) (fun v_3 =>
 q9 (q0b v_3 xv_1) (fun v_4 =>
 some (true, v_4))))))))
 else (if (xv_0.Op == 12) = true then (if (decide ((i64.wrap ((mv_0.stack.length : Int) - 2)) < 0)) = true then some (true, (⟨mv_0.r, mv_0.stack, mv_0.out, mv_0.at_, 1⟩ : GProg_machine))
 else q03 (0 <= i64.wrap ((mv_0.stack.length : Int) - 2) /\ i64.wrap ((mv_0.stack.length : Int) - 2) <= (mv_0.stack.length : Int) /\ (mv_0.stack.length : Int) <= (mv_0.stack.length : Int) /\ (mv_0.stack.length : Int) <= (mv_0.stack.length : Int)) (
 q03 (0 <= 0 /\ 0 <= i64.wrap ((mv_0.stack.length : Int) - 2) /\ i64.wrap ((mv_0.stack.length : Int) - 2) <= (mv_0.stack.length : Int)) (
 q03 (0 < Xa (mv_0.stack.length : Int) - Xa (i64.wrap ((mv_0.stack.length : Int) - 2))) (
 q9 (idx (Xb (Xa (mv_0.stack.length : Int) - Xa (i64.wrap ((mv_0.stack.length : Int) - 2))) (Xk (Xa (i64.wrap ((mv_0.stack.length : Int) - 2))) mv_0.stack)) 0) (fun xv_2 =>
 q9 (idx (Xb (Xa (mv_0.stack.length : Int) - Xa (i64.wrap ((mv_0.stack.length : Int) - 2))) (Xk (Xa (i64.wrap ((mv_0.stack.length : Int) - 2))) mv_0.stack)) 1) (fun xv_3 =>
 q9 (q0b (⟨mv_0.r, (Xb (Xa (i64.wrap ((mv_0.stack.length : Int) - 2))) mv_0.stack), mv_0.out, mv_0.at_, mv_0.bad⟩ : GProg_machine) xv_3) (fun v_5 =>
 q9 (q0b v_5 xv_2) (fun v_6 =>
 some (true, v_6)))))))))
 else (if (xv_0.Op == 13) = true then (if (decide ((i64.wrap ((mv_0.stack.length : Int) - 1)) < 0)) = true then some (true, (⟨mv_0.r, mv_0.stack, mv_0.out, mv_0.at_, 1⟩ : GProg_machine))
 else q03 (0 <= i64.wrap ((mv_0.stack.length : Int) - 1) /\ i64.wrap ((mv_0.stack.length : Int) - 1) <= (mv_0.stack.length : Int) /\ (mv_0.stack.length : Int) <= (mv_0.stack.length : Int) /\ (mv_0.stack.length : Int) <= (mv_0.stack.length : Int)) (
 q03 (0 <= 0 /\ 0 <= i64.wrap ((mv_0.stack.length : Int) - 1) /\ i64.wrap ((mv_0.stack.length : Int) - 1) <= (mv_0.stack.length : Int)) (
 some (true, (⟨mv_0.r, (Xb (Xa (i64.wrap ((mv_0.stack.length : Int) - 1))) mv_0.stack), mv_0.out, mv_0.at_, mv_0.bad⟩ : GProg_machine)))))
 else some (false, mv_0)))))))
theorem qg4 (mv_0 : GProg_machine) (xv_0 : GIns)  (r : Bool × GProg_machine) (h : q2f mv_0 xv_0 = some r) : DetS pp 135 [.ptr 0 0, .agg (Row.row xv_0)] [(0, .box [.v (.int .i64 mv_0.r.K), .v (.int .i64 mv_0.r.V), .osl 1 1 (0) (mv_0.stack.length), .osl 2 2 (0) (mv_0.out.length), .v (.int .i64 mv_0.at_), .v (.int .i64 mv_0.bad)]), (1, .arr 1 (enc mv_0.stack)), (2, .arr 2 (enc mv_0.out))] 3 (.v (.bool r.1)) [(0, .box [.v (.int .i64 r.2.r.K), .v (.int .i64 r.2.r.V), .osl 3 1 (0) (r.2.stack.length), .osl 4 2 (0) (r.2.out.length), .v (.int .i64 r.2.at_), .v (.int .i64 r.2.bad)]), (3, .arr 1 (enc r.2.stack)), (4, .arr 2 (enc r.2.out))] 5 := by
 refine dtI Tryz.func135 rfl ?_; rw [q2f] at h; have F := trivial; refine sM ?_; refine jg fun _ Q2 => ?_; refine sM ?_; refine w9 fun _ Q4 => ?_; refine sM ?_; refine sB h (fun _ h => ?_) fun _ h => ?_
 . obtain ⟨v_0, ev_0, h⟩ := z8 h; simp only [go_sem]; refine q20 [0, 1, 2] (q0p mv_0 xv_0.N v_0 ev_0) ?_; simp only [go_sem]; exact au
 .
  refine sM ?_; refine sB h (fun _ h => ?_) fun _ h => ?_
  . obtain ⟨v_1, ev_1, h⟩ := z8 h; simp only [go_sem]; refine q20 [0, 1, 2] (q0p mv_0 mv_0.r.K v_1 ev_1) ?_; simp only [go_sem]; exact au
  .
   refine sM ?_; refine sB h (fun _ h => ?_) fun _ h => ?_
   . obtain ⟨v_2, ev_2, h⟩ := z8 h; simp only [go_sem]; refine q20 [0, 1, 2] (q0p mv_0 mv_0.r.V v_2 ev_2) ?_; simp only [go_sem]; exact au
   .
    refine sM ?_; refine sB h (fun _ h => ?_) fun _ h => ?_
    .
     refine sg fun _ Q12 => ?_; simp only [go_sem]; refine q7b Tryz.func136 rfl (by kernel_rfl) (by kernel_rfl) ?_; refine sM ?_; refine sM ?_; refine sg fun _ Q15 => ?_; refine sM ?_; refine sB h (fun _ h => ?_) fun _ h => ?_
     .
      refine sM ?_; refine sM ?_; refine q02 (q0s Q15 ?_); simp only [go_sem]; refine q1t [] [(0, .box [.v (.int .i64 mv_0.r.K), .v (.int .i64 mv_0.r.V), .osl 1 1 (0) (mv_0.stack.length), .osl 2 2 (0) (mv_0.out.length), .v (.int .i64 mv_0.at_), .v (.int .i64 1)]), (1, .arr 1 (enc mv_0.stack)), (2, .arr 2 (enc mv_0.out)), (3, .box (Row.row xv_0))] 4 (.v (.slice none 0 0)) ?_ ?_
      . exact leA
      refine q2g ?_; simp only [go_sem]; exact au
     .
      refine y9 (q8 Q15 (sg fun _ Q21 => ?_)); refine q0c ?_; refine jb1 ?_; obtain ⟨F, h⟩ := bG F h; simp only [go_sem, F]; refine q8 Q21 (sg fun _ Q22 => ?_); obtain ⟨F, h⟩ := bG F h; simp only [go_sem, F]; refine q8 Q22 (sM ?_); refine q02 ?_; simp only [go_sem]; refine q1t [] [(0, .box [.v (.int .i64 mv_0.r.K), .v (.int .i64 mv_0.r.V), .osl 1 1 (0) (Xa (i64.wrap ((mv_0.stack.length : Int) - 1))), .osl 2 2 (0) (mv_0.out.length), .v (.int .i64 mv_0.at_), .v (.int .i64 mv_0.bad)]), (1, .arr 1 (enc mv_0.stack)), (2, .arr 2 (enc mv_0.out)), (3, .box (Row.row xv_0))] 4 (.osl 1 1 (Xa (i64.wrap ((mv_0.stack.length : Int) - 1))) (Xa (mv_0.stack.length : Int) - Xa (i64.wrap ((mv_0.stack.length : Int) - 1)))) ?_ ?_
      . exact leA
      refine q2g ?_; simp only [go_sem]; refine q8 Q12 (sg fun _ Q24 => ?_); obtain ⟨F, h⟩ := bG F h; simp only [go_sem, F]; refine ai ?_; refine q8 Q24 (jg3 ?_); refine sg fun _ Q25 => ?_; obtain ⟨xv_1, ex1, h⟩ := z8 h; obtain ⟨f1a, f1b, f1c, fxv_1d⟩ := qh5 ex1; simp only [Xh, Xm, Xc, Xn] at f1c fxv_1d; simp only [go_sem, f1a, f1b, f1c, fxv_1d]; refine ai ?_; refine q8 Q25 (sg fun _ Q26 => ?_); obtain ⟨v_3, ev_3, h⟩ := z8 h; simp only [go_sem]; refine qf6 [0, 6] ([], [(0, .box [.v (.int .i64 mv_0.r.K), .v (.int .i64 mv_0.r.V), .osl 1 1 (0) (Xg (Xb (Xa (i64.wrap ((mv_0.stack.length : Int) - 1))) mv_0.stack)), .osl 2 2 (0) (mv_0.out.length), .v (.int .i64 mv_0.at_), .v (.int .i64 mv_0.bad)]), (1, .arr 1 (enc (Xb (Xa (i64.wrap ((mv_0.stack.length : Int) - 1))) mv_0.stack))), (2, .arr 2 (enc mv_0.out)), (3, .box (Row.row xv_0))]) 4 [some 3] [.ptr 0 0, .v (.int .i64 xv_1)] ?_; refine q20 [0, 1, 2] (q0p (⟨mv_0.r, (Xb (Xa (i64.wrap ((mv_0.stack.length : Int) - 1))) mv_0.stack), mv_0.out, mv_0.at_, mv_0.bad⟩ : GProg_machine) xv_1 v_3 ev_3) ?_; simp only [go_sem]; refine q8 Q26 ?_; obtain ⟨v_4, ev_4, h⟩ := z8 h; simp only [go_sem]; refine q20 [0, 4, 5] (q0p v_3 xv_1 v_4 ev_4) ?_; simp only [go_sem]; exact au
    .
     refine sM ?_; refine sB h (fun _ h => ?_) fun _ h => ?_
     .
      refine sg fun _ Q29 => ?_; simp only [go_sem]; refine q7b Tryz.func136 rfl (by kernel_rfl) (by kernel_rfl) ?_; refine sM ?_; refine sM ?_; refine sg fun _ Q32 => ?_; refine sM ?_; refine sB h (fun _ h => ?_) fun _ h => ?_
      .
       refine sM ?_; refine sM ?_; refine q02 (q0s Q32 ?_); simp only [go_sem]; refine q1t [] [(0, .box [.v (.int .i64 mv_0.r.K), .v (.int .i64 mv_0.r.V), .osl 1 1 (0) (mv_0.stack.length), .osl 2 2 (0) (mv_0.out.length), .v (.int .i64 mv_0.at_), .v (.int .i64 1)]), (1, .arr 1 (enc mv_0.stack)), (2, .arr 2 (enc mv_0.out)), (3, .box (Row.row xv_0))] 4 (.v (.slice none 0 0)) ?_ ?_
       . exact leA
       refine q2g ?_; simp only [go_sem]; exact au
      .
       refine y9 (q8 Q32 (sg fun _ Q38 => ?_)); refine q0c ?_; refine jb1 ?_; obtain ⟨F, h⟩ := bG F h; simp only [go_sem, F]; refine q8 Q38 (sg fun _ Q39 => ?_); obtain ⟨F, h⟩ := bG F h; simp only [go_sem, F]; refine q8 Q39 (sM ?_); refine q02 ?_; simp only [go_sem]; refine q1t [] [(0, .box [.v (.int .i64 mv_0.r.K), .v (.int .i64 mv_0.r.V), .osl 1 1 (0) (Xa (i64.wrap ((mv_0.stack.length : Int) - 2))), .osl 2 2 (0) (mv_0.out.length), .v (.int .i64 mv_0.at_), .v (.int .i64 mv_0.bad)]), (1, .arr 1 (enc mv_0.stack)), (2, .arr 2 (enc mv_0.out)), (3, .box (Row.row xv_0))] 4 (.osl 1 1 (Xa (i64.wrap ((mv_0.stack.length : Int) - 2))) (Xa (mv_0.stack.length : Int) - Xa (i64.wrap ((mv_0.stack.length : Int) - 2)))) ?_ ?_
       . exact leA
       refine q2g ?_; simp only [go_sem]; refine q8 Q29 (sg fun _ Q41 => ?_); obtain ⟨F, h⟩ := bG F h; simp only [go_sem, F]; refine ai ?_; refine q8 Q41 (jg3 ?_); refine sg fun _ Q42 => ?_; refine q0c ?_; refine jb1 ?_; obtain ⟨xv_2, ex2, h⟩ := z8 h; obtain ⟨f2a, f2b, f2c, fxv_2d⟩ := qh5 ex2; simp only [Xh, Xm, Xc, Xn] at f2c fxv_2d; obtain ⟨xv_3, ex3, h⟩ := z8 h; obtain ⟨f3a, f3b, f3c, fxv_3d⟩ := qh5 ex3; simp only [Xh, Xm, Xc, Xn] at f3c fxv_3d; simp only [go_sem, f2a, f2b, f2c, fxv_2d, f3a, f3b, f3c, fxv_3d]; refine ai ?_; refine ai ?_; refine q8 Q42 (sg fun _ Q43 => ?_); obtain ⟨v_5, ev_5, h⟩ := z8 h; simp only [go_sem]; refine qf6 [0, 8] ([], [(0, .box [.v (.int .i64 mv_0.r.K), .v (.int .i64 mv_0.r.V), .osl 1 1 (0) (Xg (Xb (Xa (i64.wrap ((mv_0.stack.length : Int) - 2))) mv_0.stack)), .osl 2 2 (0) (mv_0.out.length), .v (.int .i64 mv_0.at_), .v (.int .i64 mv_0.bad)]), (1, .arr 1 (enc (Xb (Xa (i64.wrap ((mv_0.stack.length : Int) - 2))) mv_0.stack))), (2, .arr 2 (enc mv_0.out)), (3, .box (Row.row xv_0))]) 4 [some 3] [.ptr 0 0, .v (.int .i64 xv_3)] ?_; refine q20 [0, 1, 2] (q0p (⟨mv_0.r, (Xb (Xa (i64.wrap ((mv_0.stack.length : Int) - 2))) mv_0.stack), mv_0.out, mv_0.at_, mv_0.bad⟩ : GProg_machine) xv_3 v_5 ev_5) ?_; simp only [go_sem]; refine q8 Q43 ?_; obtain ⟨v_6, ev_6, h⟩ := z8 h; simp only [go_sem]; refine q20 [0, 4, 5] (q0p v_5 xv_2 v_6 ev_6) ?_; simp only [go_sem]; exact au
     .
      refine sM ?_; refine sB h (fun _ h => ?_) fun _ h => ?_
      .
       simp only [go_sem]; refine q7b Tryz.func136 rfl (by kernel_rfl) (by kernel_rfl) ?_; refine sM ?_; refine sM ?_; refine sg fun _ Q48 => ?_; refine sM ?_; refine sB h (fun _ h => ?_) fun _ h => ?_
       .
        refine sM ?_; refine sM ?_; refine q02 (q0s Q48 ?_); simp only [go_sem]; refine q1t [] [(0, .box [.v (.int .i64 mv_0.r.K), .v (.int .i64 mv_0.r.V), .osl 1 1 (0) (mv_0.stack.length), .osl 2 2 (0) (mv_0.out.length), .v (.int .i64 mv_0.at_), .v (.int .i64 1)]), (1, .arr 1 (enc mv_0.stack)), (2, .arr 2 (enc mv_0.out)), (3, .box (Row.row xv_0))] 4 (.v (.slice none 0 0)) ?_ ?_
        . exact leA
        refine q2g ?_; simp only [go_sem]; exact au
       .
        refine y9 (q8 Q48 (sg fun _ Q53 => ?_)); refine q0c ?_; refine jb1 ?_; obtain ⟨F, h⟩ := bG F h; simp only [go_sem, F]; refine q8 Q53 (sg fun _ Q54 => ?_); obtain ⟨F, h⟩ := bG F h; simp only [go_sem, F]; refine q8 Q54 (sM ?_); refine q02 ?_; simp only [go_sem]; refine q1t [] [(0, .box [.v (.int .i64 mv_0.r.K), .v (.int .i64 mv_0.r.V), .osl 1 1 (0) (Xa (i64.wrap ((mv_0.stack.length : Int) - 1))), .osl 2 2 (0) (mv_0.out.length), .v (.int .i64 mv_0.at_), .v (.int .i64 mv_0.bad)]), (1, .arr 1 (enc mv_0.stack)), (2, .arr 2 (enc mv_0.out)), (3, .box (Row.row xv_0))] 4 (.osl 1 1 (Xa (i64.wrap ((mv_0.stack.length : Int) - 1))) (Xa (mv_0.stack.length : Int) - Xa (i64.wrap ((mv_0.stack.length : Int) - 1)))) ?_ ?_
        . exact leA
        refine q2g ?_; simp only [go_sem]; exact au
      . exact au
def q83 (nv_0 : Int) : Option Int :=
 (if (decide (nv_0 < 0)) = true then some (IntKind.u64.wrap (0 - (IntKind.u64.wrap nv_0)))
 else some (IntKind.u64.wrap nv_0))
instance j35 (nv_0 : Int) : Ct pp 141 (q83 nv_0) [.v (.int .i64 nv_0)] fun r => (.v (.int .u64 r)) := ctI Tryz.func141 rfl (by rw [q83]; exact au1)
def q3f (xv_0 : Int) (y_0 : Int) : Option (Int × Int) :=
 some (IntKind.u64.wrap ((IntKind.u64.wrap ((IntKind.u64.wrap ((q29 .u64 xv_0 32) * (q29 .u64 y_0 32))) + (q29 .u64 (IntKind.u64.wrap ((IntKind.u64.wrap ((q29 .u64 xv_0 32) * (qo4 .u64 y_0 4294967295))) + (q29 .u64 (IntKind.u64.wrap ((qo4 .u64 xv_0 4294967295) * (qo4 .u64 y_0 4294967295))) 32))) 32))) + (q29 .u64 (IntKind.u64.wrap ((qo4 .u64 (IntKind.u64.wrap ((IntKind.u64.wrap ((q29 .u64 xv_0 32) * (qo4 .u64 y_0 4294967295))) + (q29 .u64 (IntKind.u64.wrap ((qo4 .u64 xv_0 4294967295) * (qo4 .u64 y_0 4294967295))) 32))) 4294967295) + (IntKind.u64.wrap ((qo4 .u64 xv_0 4294967295) * (q29 .u64 y_0 32))))) 32)), IntKind.u64.wrap (xv_0 * y_0))
instance j08 (xv_0 : Int) (y_0 : Int) : Ct pp 128 (q3f xv_0 y_0) [.v (.int .u64 xv_0), .v (.int .u64 y_0)] fun r => (.tup [.v (.int .u64 r.1), .v (.int .u64 r.2)]) := ctI Tryz.func128 rfl (by rw [q3f]; exact au1)
def qi3 (a_0 : Int) (b_0 : Int) : Option (Int × Bool) :=
 q9 (q83 a_0) (fun v_0 =>
 q9 (q83 b_0) (fun v_1 =>
 q9 (q3f v_0 v_1) (fun v_2 =>
 (if (!((decide (a_0 < 0)) == (decide (b_0 < 0)))) = true then some (i64.wrap (0 - (i64.wrap v_2.2)), ((v_2.1 == 0) && (decide (v_2.2 <= 9223372036854775808))))
 else some (i64.wrap v_2.2, ((v_2.1 == 0) && (decide (v_2.2 < 9223372036854775808))))))))
instance j5t (a_0 : Int) (b_0 : Int) : Ct pp 139 (qi3 a_0 b_0) [.v (.int .i64 a_0), .v (.int .i64 b_0)] fun r => (.tup [.v (.int .i64 r.1), .v (.bool r.2)]) := ctI Tryz.func139 rfl (by rw [qi3]; exact au1)
def q9t (ok_0 : Bool) : Option Int :=
 (if ok_0 = true then some 1
 else some 0)
instance j5s (ok_0 : Bool) : Ct pp 140 (q9t ok_0) [.v (.bool ok_0)] fun r => (.v (.int .i64 r)) := ctI Tryz.func140 rfl (by rw [q9t]; exact au1)
def q2i (nv_0 : Int) (ok_0 : Bool) : Option (Int × Int) :=
 (if (!ok_0) = true then some (0, 2)
 else some (nv_0, 0))
def q8w (op_0 : Int) (a_0 : Int) (b_0 : Int) (t53_1 : Bool) : Option (Int × Int) :=
 (if t53_1 = true then (if (b_0 == 0) = true then some (0, 3)
 else (if ((b_0 == (-1)) && (op_0 == 8)) = true then q2i 0 true
 else (if (b_0 == (-1)) = true then q2i (i64.wrap (0 - a_0)) (!(a_0 == (-9223372036854775808)))
 else (if (op_0 == 7) = true then q03 (b_0 ≠ 0) (
 q2i (i64.wrap (Int.tdiv a_0 b_0)) true)
 else q03 (b_0 ≠ 0) (
 q2i (Int.tmod a_0 b_0) true)))))
 else (if (op_0 == 9) = true then q9 (q9t (decide (a_0 < b_0))) (fun v_4 =>
 q2i v_4 true)
 else (if (op_0 == 10) = true then q9 (q9t (a_0 == b_0)) (fun v_5 =>
 q2i v_5 true)
 else q2i 0 true)))
def qr2 (op_0 : Int) (a_0 : Int) (b_0 : Int) : Option (Int × Int) :=
 (if (op_0 == 4) = true then q2i (i64.wrap (a_0 + b_0)) ((!((decide (a_0 < 0)) == (decide (b_0 < 0)))) || ((decide ((i64.wrap (a_0 + b_0)) < 0)) == (decide (a_0 < 0))))
 else (if (op_0 == 5) = true then q2i (i64.wrap (a_0 - b_0)) (((decide (a_0 < 0)) == (decide (b_0 < 0))) || ((decide ((i64.wrap (a_0 - b_0)) < 0)) == (decide (a_0 < 0))))
 else (if (op_0 == 6) = true then q9 (qi3 a_0 b_0) (fun v_3 =>
 q2i v_3.1 v_3.2)
 else (if (op_0 == 7) = true then q8w op_0 a_0 b_0 (op_0 == 7)
 else q8w op_0 a_0 b_0 (op_0 == 8)))))
instance zg0 (op_0 : Int) (a_0 : Int) (b_0 : Int) : Ct pp 137 (qr2 op_0 a_0 b_0) [.v (.int .i64 op_0), .v (.int .i64 a_0), .v (.int .i64 b_0)] fun r => (.tup [.v (.int .i64 r.1), .v (.int .i64 r.2)]) := ctK Tryz.func137 rfl (by rw [qr2]) (by
 intro r h F; refine sM ?_; refine sM ?_; refine q52 (fun ((nv_0, ok_0) : Int × Bool) => q2i nv_0 ok_0 = some r) [] (fun x => ([(8, .v (.int .i64 x.1)), (9, .v (.bool x.2))], [])) 0 ?_ ?_
 .
  intro _ Q7; refine sM ?_; refine w9 fun _ Q9 => ?_; refine sM ?_; refine sB h (fun _ h => ?_) fun _ h => ?_
  . exact au
  .
   refine sM ?_; refine sB h (fun _ h => ?_) fun _ h => ?_
   . exact au
   .
    refine sM ?_; refine sB h (fun _ h => ?_) fun _ h => ?_
    . exact au
    .
     refine q52 (fun (t53_1 : Bool) => q8w op_0 a_0 b_0 t53_1 = some r) [0, 1, 2, 8, 9, 10] (fun t53_1 => ([(53, .v (.bool t53_1))], [])) 0 ?_ ?_
     . intro _ Q23; exact au
     .
      rintro t53_1 h
      try dsimp only at h
      rw [q8w] at h; exact au
 .
  rintro ⟨nv_0, ok_0⟩ h
  try dsimp only at h
  rw [q2i] at h; exact au)
def q2m (mv_0 : GProg_machine) (xv_0 : GIns) : Option GProg_machine :=
 q9 (q2f (⟨mv_0.r, mv_0.stack, mv_0.out, i64.wrap (mv_0.at_ + 1), mv_0.bad⟩ : GProg_machine) xv_0) (fun v_0 =>
 (if v_0.1 = true then some v_0.2
 else (if (xv_0.Op == 14) = true then some (⟨v_0.2.r, v_0.2.stack, v_0.2.out, xv_0.N, v_0.2.bad⟩ : GProg_machine)
 else (if (xv_0.Op == 15) = true then (if (decide ((i64.wrap ((v_0.2.stack.length : Int) - 1)) < 0)) = true then some (⟨v_0.2.r, v_0.2.stack, v_0.2.out, v_0.2.at_, 1⟩ : GProg_machine)
 else q03 (0 <= i64.wrap ((v_0.2.stack.length : Int) - 1) /\ i64.wrap ((v_0.2.stack.length : Int) - 1) <= (v_0.2.stack.length : Int) /\ (v_0.2.stack.length : Int) <= (v_0.2.stack.length : Int) /\ (v_0.2.stack.length : Int) <= (v_0.2.stack.length : Int)) (
 q03 (0 <= 0 /\ 0 <= i64.wrap ((v_0.2.stack.length : Int) - 1) /\ i64.wrap ((v_0.2.stack.length : Int) - 1) <= (v_0.2.stack.length : Int)) (
 q03 (0 < Xa (v_0.2.stack.length : Int) - Xa (i64.wrap ((v_0.2.stack.length : Int) - 1))) (
 q9 (idx (Xb (Xa (v_0.2.stack.length : Int) - Xa (i64.wrap ((v_0.2.stack.length : Int) - 1))) (Xk (Xa (i64.wrap ((v_0.2.stack.length : Int) - 1))) v_0.2.stack)) 0) (fun xv_1 =>
 (if (xv_1 == 0) = true then some (⟨v_0.2.r, (Xb (Xa (i64.wrap ((v_0.2.stack.length : Int) - 1))) v_0.2.stack), v_0.2.out, xv_0.N, v_0.2.bad⟩ : GProg_machine)
 else some (⟨v_0.2.r, (Xb (Xa (i64.wrap ((v_0.2.stack.length : Int) - 1))) v_0.2.stack), v_0.2.out, v_0.2.at_, v_0.2.bad⟩ : GProg_machine)))))))
 else (if (xv_0.Op == 16) = true then (if (decide ((i64.wrap ((v_0.2.stack.length : Int) - 2)) < 0)) = true then some (⟨v_0.2.r, v_0.2.stack, v_0.2.out, v_0.2.at_, 1⟩ : GProg_machine)
 else q03 (0 <= i64.wrap ((v_0.2.stack.length : Int) - 2) /\ i64.wrap ((v_0.2.stack.length : Int) - 2) <= (v_0.2.stack.length : Int) /\ (v_0.2.stack.length : Int) <= (v_0.2.stack.length : Int) /\ (v_0.2.stack.length : Int) <= (v_0.2.stack.length : Int)) (
 q03 (0 <= 0 /\ 0 <= i64.wrap ((v_0.2.stack.length : Int) - 2) /\ i64.wrap ((v_0.2.stack.length : Int) - 2) <= (v_0.2.stack.length : Int)) (
 q03 (0 < Xa (v_0.2.stack.length : Int) - Xa (i64.wrap ((v_0.2.stack.length : Int) - 2))) (
 (if ((v_0.2.out.length : Int) == 8) = true then some (⟨v_0.2.r, (Xb (Xa (i64.wrap ((v_0.2.stack.length : Int) - 2))) v_0.2.stack), v_0.2.out, v_0.2.at_, 5⟩ : GProg_machine)
 else q9 (idx (Xb (Xa (v_0.2.stack.length : Int) - Xa (i64.wrap ((v_0.2.stack.length : Int) - 2))) (Xk (Xa (i64.wrap ((v_0.2.stack.length : Int) - 2))) v_0.2.stack)) 0) (fun xv_2 =>
 q9 (idx (Xb (Xa (v_0.2.stack.length : Int) - Xa (i64.wrap ((v_0.2.stack.length : Int) - 2))) (Xk (Xa (i64.wrap ((v_0.2.stack.length : Int) - 2))) v_0.2.stack)) 1) (fun xv_3 =>
 q03 ((v_0.2.out.length + Xg ([(⟨xv_2, xv_3⟩ : GRec)] : List GRec)) * 16 <= 140737488355328) (
 some (⟨v_0.2.r, (Xb (Xa (i64.wrap ((v_0.2.stack.length : Int) - 2))) v_0.2.stack), (v_0.2.out ++ ([(⟨xv_2, xv_3⟩ : GRec)] : List GRec)), v_0.2.at_, v_0.2.bad⟩ : GProg_machine)))))))))
 else (if (decide ((i64.wrap ((v_0.2.stack.length : Int) - 2)) < 0)) = true then some (⟨v_0.2.r, v_0.2.stack, v_0.2.out, v_0.2.at_, 1⟩ : GProg_machine)
 else q03 (0 <= i64.wrap ((v_0.2.stack.length : Int) - 2) /\ i64.wrap ((v_0.2.stack.length : Int) - 2) <= (v_0.2.stack.length : Int) /\ (v_0.2.stack.length : Int) <= (v_0.2.stack.length : Int) /\ (v_0.2.stack.length : Int) <= (v_0.2.stack.length : Int)) (
 q03 (0 <= 0 /\ 0 <= i64.wrap ((v_0.2.stack.length : Int) - 2) /\ i64.wrap ((v_0.2.stack.length : Int) - 2) <= (v_0.2.stack.length : Int)) (
 q03 (0 < Xa (v_0.2.stack.length : Int) - Xa (i64.wrap ((v_0.2.stack.length : Int) - 2))) (
 q9 (idx (Xb (Xa (v_0.2.stack.length : Int) - Xa (i64.wrap ((v_0.2.stack.length : Int) - 2))) (Xk (Xa (i64.wrap ((v_0.2.stack.length : Int) - 2))) v_0.2.stack)) 0) (fun xv_4 =>
 q9 (idx (Xb (Xa (v_0.2.stack.length : Int) - Xa (i64.wrap ((v_0.2.stack.length : Int) - 2))) (Xk (Xa (i64.wrap ((v_0.2.stack.length : Int) - 2))) v_0.2.stack)) 1) (fun xv_5 =>
 q9 (qr2 xv_0.Op xv_4 xv_5) (fun v_1 =>
 q9 (q0b (⟨v_0.2.r, (Xb (Xa (i64.wrap ((v_0.2.stack.length : Int) - 2))) v_0.2.stack), v_0.2.out, v_0.2.at_, v_1.2⟩ : GProg_machine) v_1.1) (fun v_2 =>
 some v_2)))))))))))))
theorem qi4 (mv_0 : GProg_machine) (xv_0 : GIns)  (r : GProg_machine) (h : q2m mv_0 xv_0 = some r) : DetS pp 131 [.ptr 0 0, .agg (Row.row xv_0)] [(0, .box [.v (.int .i64 mv_0.r.K), .v (.int .i64 mv_0.r.V), .osl 1 1 (0) (mv_0.stack.length), .osl 2 2 (0) (mv_0.out.length), .v (.int .i64 mv_0.at_), .v (.int .i64 mv_0.bad)]), (1, .arr 1 (enc mv_0.stack)), (2, .arr 2 (enc mv_0.out))] 3 (.tup []) [(0, .box [.v (.int .i64 r.r.K), .v (.int .i64 r.r.V), .osl 3 1 (0) (r.stack.length), .osl 4 2 (0) (r.out.length), .v (.int .i64 r.at_), .v (.int .i64 r.bad)]), (3, .arr 1 (enc r.stack)), (4, .arr 2 (enc r.out))] 5 := by
 refine dtI Tryz.func131 rfl ?_; rw [q2m] at h; have F := trivial; refine sM ?_; refine sM ?_; refine sg fun _ Q3 => ?_; refine sg fun _ Q4 => ?_; obtain ⟨v_0, ev_0, h⟩ := z8 h; simp only [go_sem]; refine q20 [0, 1, 2] (qg4 (⟨mv_0.r, mv_0.stack, mv_0.out, i64.wrap (mv_0.at_ + 1), mv_0.bad⟩ : GProg_machine) xv_0 v_0 ev_0) ?_; simp only [go_sem]; refine q8 Q4 (sB h (fun _ h => ?_) fun _ h => ?_)
 . exact au
 .
  refine y9 (q8 Q3 (sM ?_)); refine w9 fun _ Q6 => ?_; refine sM ?_; refine sB h (fun _ h => ?_) fun _ h => ?_
  . exact au
  .
   refine sM ?_; refine sB h (fun _ h => ?_) fun _ h => ?_
   .
    refine sg fun _ Q9 => ?_; simp only [go_sem]; refine q7b Tryz.func136 rfl (by kernel_rfl) (by kernel_rfl) ?_; refine sM ?_; refine sM ?_; refine sg fun _ Q12 => ?_; refine sM ?_; refine sB h (fun _ h => ?_) fun _ h => ?_
    .
     refine sM ?_; refine sM ?_; refine q02 (q0s Q12 ?_); simp only [go_sem]; refine q1t [] [(0, .box [.v (.int .i64 v_0.2.r.K), .v (.int .i64 v_0.2.r.V), .osl 4 1 (0) (v_0.2.stack.length), .osl 5 2 (0) (v_0.2.out.length), .v (.int .i64 v_0.2.at_), .v (.int .i64 1)]), (3, .box (Row.row xv_0)), (4, .arr 1 (enc v_0.2.stack)), (5, .arr 2 (enc v_0.2.out))] 6 (.v (.slice none 0 0)) ?_ ?_
     . exact leA
     refine q2g ?_; simp only [go_sem]; exact au
    .
     refine y9 (q8 Q12 (sg fun _ Q17 => ?_)); refine q0c ?_; refine jb1 ?_; obtain ⟨F, h⟩ := bG F h; simp only [go_sem, F]; refine q8 Q17 (sg fun _ Q18 => ?_); obtain ⟨F, h⟩ := bG F h; simp only [go_sem, F]; refine q8 Q18 (sM ?_); refine q02 ?_; simp only [go_sem]; refine q1t [] [(0, .box [.v (.int .i64 v_0.2.r.K), .v (.int .i64 v_0.2.r.V), .osl 4 1 (0) (Xa (i64.wrap ((v_0.2.stack.length : Int) - 1))), .osl 5 2 (0) (v_0.2.out.length), .v (.int .i64 v_0.2.at_), .v (.int .i64 v_0.2.bad)]), (3, .box (Row.row xv_0)), (4, .arr 1 (enc v_0.2.stack)), (5, .arr 2 (enc v_0.2.out))] 6 (.osl 4 1 (Xa (i64.wrap ((v_0.2.stack.length : Int) - 1))) (Xa (v_0.2.stack.length : Int) - Xa (i64.wrap ((v_0.2.stack.length : Int) - 1)))) ?_ ?_
     . exact leA
     refine q2g ?_; simp only [go_sem]; refine q8 Q9 (sg fun _ Q20 => ?_); obtain ⟨F, h⟩ := bG F h; obtain ⟨xv_1, ex1, h⟩ := z8 h; obtain ⟨f1a, f1b, f1c, fxv_1d⟩ := qh5 ex1; simp only [Xh, Xm, Xc, Xn] at f1c fxv_1d; simp only [go_sem, f1a, f1b, f1c, fxv_1d, F]; refine ai ?_; refine ai ?_; exact au
   .
    refine sM ?_; refine sB h (fun _ h => ?_) fun _ h => ?_
    .
     refine sg fun _ Q22 => ?_; simp only [go_sem]; refine q7b Tryz.func136 rfl (by kernel_rfl) (by kernel_rfl) ?_; refine sM ?_; refine sM ?_; refine sg fun _ Q25 => ?_; refine sM ?_; refine sB h (fun _ h => ?_) fun _ h => ?_
     .
      refine sM ?_; refine sM ?_; refine q02 (q0s Q25 ?_); simp only [go_sem]; refine q1t [] [(0, .box [.v (.int .i64 v_0.2.r.K), .v (.int .i64 v_0.2.r.V), .osl 4 1 (0) (v_0.2.stack.length), .osl 5 2 (0) (v_0.2.out.length), .v (.int .i64 v_0.2.at_), .v (.int .i64 1)]), (3, .box (Row.row xv_0)), (4, .arr 1 (enc v_0.2.stack)), (5, .arr 2 (enc v_0.2.out))] 6 (.v (.slice none 0 0)) ?_ ?_
      . exact leA
      refine q2g ?_; simp only [go_sem]; exact au
     .
      refine y9 (q8 Q25 (sg fun _ Q31 => ?_)); refine q0c ?_; refine jb1 ?_; obtain ⟨F, h⟩ := bG F h; simp only [go_sem, F]; refine q8 Q31 (sg fun _ Q32 => ?_); obtain ⟨F, h⟩ := bG F h; simp only [go_sem, F]; refine q8 Q32 (sM ?_); refine q02 ?_; simp only [go_sem]; refine q1t [] [(0, .box [.v (.int .i64 v_0.2.r.K), .v (.int .i64 v_0.2.r.V), .osl 4 1 (0) (Xa (i64.wrap ((v_0.2.stack.length : Int) - 2))), .osl 5 2 (0) (v_0.2.out.length), .v (.int .i64 v_0.2.at_), .v (.int .i64 v_0.2.bad)]), (3, .box (Row.row xv_0)), (4, .arr 1 (enc v_0.2.stack)), (5, .arr 2 (enc v_0.2.out))] 6 (.osl 4 1 (Xa (i64.wrap ((v_0.2.stack.length : Int) - 2))) (Xa (v_0.2.stack.length : Int) - Xa (i64.wrap ((v_0.2.stack.length : Int) - 2)))) ?_ ?_
      . exact leA
      refine q2g ?_; simp only [go_sem]; refine q8 Q22 (w9 fun _ Q34 => ?_); refine sg fun _ Q35 => ?_; obtain ⟨F, h⟩ := bG F h; simp only [go_sem, F]; refine ai ?_; refine q8 Q35 (jg4 ?_); refine sM ?_; refine sB h (fun _ h => ?_) fun _ h => ?_
      . exact au
      .
       refine q0c ?_; refine q3v 14 0 0 [0, 0, 2, 6, 14, 0, 32, 96, 0, 256, 768, 2016, 4064, 8190, 16383, 32767, 65535] [5, 6] [0] [] [13] [] mixed (by kernel_rfl) (of_decide_eq_true (by kernel_rfl)) (by kernel_rfl) (by kernel_rfl) (by rfl) ?_; obtain ⟨xv_2, ex2, h⟩ := z8 h; obtain ⟨f2a, f2b, f2c, fxv_2d⟩ := qh5 ex2; simp only [Xh, Xm, Xc, Xn] at f2c fxv_2d; obtain ⟨xv_3, ex3, h⟩ := z8 h; obtain ⟨f3a, f3b, f3c, fxv_3d⟩ := qh5 ex3; simp only [Xh, Xm, Xc, Xn] at f3c fxv_3d; have rf_0 : [[.v (.int .i64 xv_2), .v (.int .i64 xv_3)]] = enc ([(⟨xv_2, xv_3⟩ : GRec)] : List GRec) := by rfl
       obtain ⟨g_6, h⟩ := q0d h; have F := Xd F g_6; simp only [Xf, Xi, Xc, Xe] at g_6; have rf_1 : enc v_0.2.out ++ [[.v (.int .i64 xv_2), .v (.int .i64 xv_3)]] = enc (v_0.2.out ++ ([(⟨xv_2, xv_3⟩ : GRec)] : List GRec)) := by exact (q5b v_0.2.out ([(⟨xv_2, xv_3⟩ : GRec)] : List GRec)).symm
       simp only [go_sem, f2a, f2b, f2c, fxv_2d, f3a, f3b, f3c, fxv_3d, g_6, rf_1]; refine ai ?_; refine ai ?_; simp only [rf_0]; exact au
    .
     refine sg fun _ Q37 => ?_; simp only [go_sem]; refine q7b Tryz.func136 rfl (by kernel_rfl) (by kernel_rfl) ?_; refine sM ?_; refine sM ?_; refine sg fun _ Q40 => ?_; refine sM ?_; refine sB h (fun _ h => ?_) fun _ h => ?_
     .
      refine sM ?_; refine sM ?_; refine q02 (q0s Q40 ?_); simp only [go_sem]; refine q1t [] [(0, .box [.v (.int .i64 v_0.2.r.K), .v (.int .i64 v_0.2.r.V), .osl 4 1 (0) (v_0.2.stack.length), .osl 5 2 (0) (v_0.2.out.length), .v (.int .i64 v_0.2.at_), .v (.int .i64 1)]), (3, .box (Row.row xv_0)), (4, .arr 1 (enc v_0.2.stack)), (5, .arr 2 (enc v_0.2.out))] 6 (.v (.slice none 0 0)) ?_ ?_
      . exact leA
      refine q2g ?_; simp only [go_sem]; exact au
     .
      refine y9 (q8 Q40 (sg fun _ Q45 => ?_)); refine q0c ?_; refine jb1 ?_; obtain ⟨F, h⟩ := bG F h; simp only [go_sem, F]; refine q8 Q45 (sg fun _ Q46 => ?_); obtain ⟨F, h⟩ := bG F h; simp only [go_sem, F]; refine q8 Q46 (sM ?_); refine q02 ?_; simp only [go_sem]; refine q1t [] [(0, .box [.v (.int .i64 v_0.2.r.K), .v (.int .i64 v_0.2.r.V), .osl 4 1 (0) (Xa (i64.wrap ((v_0.2.stack.length : Int) - 2))), .osl 5 2 (0) (v_0.2.out.length), .v (.int .i64 v_0.2.at_), .v (.int .i64 v_0.2.bad)]), (3, .box (Row.row xv_0)), (4, .arr 1 (enc v_0.2.stack)), (5, .arr 2 (enc v_0.2.out))] 6 (.osl 4 1 (Xa (i64.wrap ((v_0.2.stack.length : Int) - 2))) (Xa (v_0.2.stack.length : Int) - Xa (i64.wrap ((v_0.2.stack.length : Int) - 2)))) ?_ ?_
      . exact leA
      refine q2g ?_; simp only [go_sem]; refine q8 Q37 (sg fun _ Q48 => ?_); obtain ⟨F, h⟩ := bG F h; simp only [go_sem, F]; refine ai ?_; refine q8 Q48 (jg3 ?_); refine sg fun _ Q49 => ?_; refine q0c ?_; refine jb1 ?_; obtain ⟨xv_4, ex4, h⟩ := z8 h; obtain ⟨f4a, f4b, f4c, fxv_4d⟩ := qh5 ex4; simp only [Xh, Xm, Xc, Xn] at f4c fxv_4d; obtain ⟨xv_5, ex5, h⟩ := z8 h; obtain ⟨f5a, f5b, f5c, fxv_5d⟩ := qh5 ex5; simp only [Xh, Xm, Xc, Xn] at f5c fxv_5d; obtain ⟨v_1, ev_1, h⟩ := z8 h; simp only [go_sem, f4a, f4b, f4c, fxv_4d, f5a, f5b, f5c, fxv_5d]; refine ai ?_; refine ai ?_; refine callq (fun _ => (zg0 xv_0.Op xv_4 xv_5 v_1 ev_1)) (by rfl) (by rfl) ?_; simp only [go_sem]; refine q8 Q49 (sM ?_); obtain ⟨v_2, ev_2, h⟩ := z8 h; simp only [go_sem]; refine qf6 [] ([], [(0, .box [.v (.int .i64 v_0.2.r.K), .v (.int .i64 v_0.2.r.V), .osl 4 1 (0) (Xg (Xb (Xa (i64.wrap ((v_0.2.stack.length : Int) - 2))) v_0.2.stack)), .osl 5 2 (0) (v_0.2.out.length), .v (.int .i64 v_0.2.at_), .v (.int .i64 v_1.2)]), (3, .box (Row.row xv_0)), (4, .arr 1 (enc (Xb (Xa (i64.wrap ((v_0.2.stack.length : Int) - 2))) v_0.2.stack))), (5, .arr 2 (enc v_0.2.out))]) 6 [some 3, some 4, some 5] [.ptr 0 0, .v (.int .i64 v_1.1)] ?_; refine q20 [0, 4, 5] (q0p (⟨v_0.2.r, (Xb (Xa (i64.wrap ((v_0.2.stack.length : Int) - 2))) v_0.2.stack), v_0.2.out, v_0.2.at_, v_1.2⟩ : GProg_machine) v_1.1 v_2 ev_2) ?_; simp only [go_sem]; exact au
def q8x (rv_0 : GRec) (b_8 : Int) (b_9 : Int) (b_10 : Int) (b_11 : Int) (a_4 : List Int) (a_5 : List GRec) : Option ((List GRec) × Int) :=
 (if (!(b_11 == 0)) = true then some (([(⟨rv_0.K, i64.wrap ((-9223372036854775808) + b_11)⟩ : GRec)] : List GRec), b_11)
 else some (a_5, 0))
def qx5 (p_0 : List GIns) (rv_0 : GRec) (rec_2 : Int × Int × Int × Int × Int × (List Int) × (List GRec) -> Option ((List GRec) × Int)) : Int × Int × Int × Int × Int × (List Int) × (List GRec) -> Option ((List GRec) × Int) :=
 fun (fuel_3, b_16, b_17, b_18, b_19, a_8, a_9) =>
 (if ((decide (b_18 < (p_0.length : Int))) && (b_19 == 0)) = true then (if (fuel_3 == 0) = true then q8x rv_0 b_16 b_17 b_18 4 a_8 a_9
 else q9 (idx p_0 b_18) (fun xv_5 =>
 q9 (q2m (⟨(⟨b_16, b_17⟩ : GRec), a_8, a_9, b_18, b_19⟩ : GProg_machine) xv_5) (fun v_6 =>
 rec_2 (i64.wrap (fuel_3 - 1), v_6.r.K, v_6.r.V, v_6.at_, v_6.bad, v_6.stack, v_6.out))))
 else q8x rv_0 b_16 b_17 b_18 b_19 a_8 a_9)
def qr3 (p_0 : List GIns) (rv_0 : GRec) : Option ((List GRec) × Int) :=
 q9 (q77 p_0) (fun v_0 =>
 (if (!v_0) = true then some (([] : List GRec), 0)
 else q05 (qx5 p_0 rv_0) rounds (256, rv_0.K, rv_0.V, 0, 0, [], [])))
instance j80 (p_0 : List GIns) (rv_0 : GRec) : Ct pp 124 (qr3 p_0 rv_0) [.sl 2 (enc p_0), .agg (Row.row rv_0)] fun r => (.tup [.sl 2 (enc r.1), .v (.int .i64 r.2)]) := ctK Tryz.func124 rfl (by rw [qr3]) (by
 intro r h F; refine sM ?_; refine sg fun _ Q2 => ?_; refine sg fun _ Q3 => ?_; simp only [go_sem]; refine q6l h fun v_0 h => ?_; simp only [go_sem]; refine q8 Q3 (sB h (fun _ h => ?_) fun _ h => ?_)
 . exact au
 .
  refine y9 (q8 Q2 (sM ?_)); refine q52 (fun ((b_8, b_9, b_10, b_11, a_4, a_5) : Int × Int × Int × Int × (List Int) × (List GRec)) => q8x rv_0 b_8 b_9 b_10 b_11 a_4 a_5 = some r) [3, 6] (fun x => ([], [(0, .box (Row.row rv_0)), (1, .box [.v (.int .i64 x.1), .v (.int .i64 x.2.1), .osl 2 1 (0) (x.2.2.2.2.1.length), .osl 3 2 (0) (x.2.2.2.2.2.length), .v (.int .i64 x.2.2.1), .v (.int .i64 x.2.2.2.1)]), (2, .arr 1 (enc x.2.2.2.2.1)), (3, .arr 2 (enc x.2.2.2.2.2))])) 4 ?_ ?_
  .
   intro _ Q10; refine sM ?_; refine w9 fun _ Q12 => ?_; refine q0x h [0, 3, 6] (fun x => ([(7, .v (.int .i64 x.1))], [(0, .box (Row.row rv_0)), (1, .box [.v (.int .i64 x.2.1), .v (.int .i64 x.2.2.1), .osl 2 1 (0) (x.2.2.2.2.2.1.length), .osl 3 2 (0) (x.2.2.2.2.2.2.length), .v (.int .i64 x.2.2.2.1), .v (.int .i64 x.2.2.2.2.1)]), (2, .arr 1 (enc x.2.2.2.2.2.1)), (3, .arr 2 (enc x.2.2.2.2.2.2))])) 4 ?_; rintro m_2 ⟨fuel_3, b_16, b_17, b_18, b_19, a_8, a_9⟩ h _ Q13; rw [qx5] at h; refine sg fun _ Q14 => ?_; refine sM ?_; refine sB h (fun _ h => ?_) fun _ h => ?_
   .
    refine y9 (q8 Q14 (sg fun _ Q16 => ?_)); refine w9 fun _ Q17 => ?_; refine sg fun _ Q18 => ?_; refine sM ?_; refine sB h (fun _ h => ?_) fun _ h => ?_
    . exact au
    . refine y9 (q8 Q18 ?_); obtain ⟨xv_5, F, h⟩ := bI F h; obtain ⟨v_6, ev_6, h⟩ := z8 h; simp only [go_sem, F]; refine ai ?_; refine q20 [1, 2, 3] (qi4 (⟨(⟨b_16, b_17⟩ : GRec), a_8, a_9, b_18, b_19⟩ : GProg_machine) xv_5 v_6 ev_6) ?_; simp only [go_sem]; exact au
   . exact au
  .
   rintro ⟨b_8, b_9, b_10, b_11, a_4, a_5⟩ h
   try dsimp only at h
   rw [q8x] at h; refine sg fun _ Q6 => ?_; refine sM ?_; refine sB h (fun _ h => ?_) fun _ h => ?_
   .
    refine sg fun _ Q8 => ?_; refine q0c ?_; refine jb1 ?_; have rf_0 : [[.v (.int .i64 rv_0.K), .v (.int .i64 (i64.wrap ((-9223372036854775808) + b_11)))]] = enc ([(⟨rv_0.K, i64.wrap ((-9223372036854775808) + b_11)⟩ : GRec)] : List GRec) := by rfl
    simp only [go_sem]; simp only [rf_0]; exact au
   . exact au)
def qf1 (k_0 : Int) : Option GRec :=
 some (⟨k_0, -9223372036854775806⟩ : GRec)
instance j7b (k_0 : Int) : Ct pp 125 (qf1 k_0) [.v (.int .i64 k_0)] fun r => (.agg (Row.row r)) := ctI Tryz.func125 rfl (by rw [qf1]; exact au1)
def q97 (k_0 : Int) (a_0 : Int) (b_0 : Int) : Option GRec :=
 (if (((decide (a_0 < 0)) == (decide (b_0 < 0))) && (!((decide ((i64.wrap (a_0 + b_0)) < 0)) == (decide (a_0 < 0))))) = true then q9 (qf1 k_0) (fun v_0 =>
 some v_0)
 else some (⟨k_0, i64.wrap (a_0 + b_0)⟩ : GRec))
instance zg1 (k_0 : Int) (a_0 : Int) (b_0 : Int) : Ct pp 111 (q97 k_0 a_0 b_0) [.v (.int .i64 k_0), .v (.int .i64 a_0), .v (.int .i64 b_0)] fun r => (.agg (Row.row r)) := ctI Tryz.func111 rfl (by rw [q97]; exact au1)
def q78 (xv_0 : GNode) (rv_0 : GRec) : Option (List GRec) :=
 (if (xv_0.Kind == 2) = true then q9 (qr3 xv_0.Prog rv_0) (fun v_0 =>
 some v_0.1)
 else (if (xv_0.Kind == 3) = true then q9 (q97 rv_0.K rv_0.V xv_0.Arg) (fun v_1 =>
 some ([v_1] : List GRec))
 else (if (xv_0.Kind == 4) = true then (if (decide (xv_0.Arg < 1)) = true then some ([] : List GRec)
 else q03 (xv_0.Arg ≠ 0) (
 (if (!((Int.tmod rv_0.V xv_0.Arg) == 0)) = true then some ([] : List GRec)
 else some ([rv_0] : List GRec))))
 else some ([rv_0] : List GRec))))
instance j5w (xv_0 : GNode) (rv_0 : GRec) : Ct pp 108 (q78 xv_0 rv_0) [.agg (Row.row xv_0), .agg (Row.row rv_0)] fun r => (.sl 2 (enc r)) := ctK Tryz.func108 rfl (by rw [q78]) (by
 intro r h F; refine sM ?_; refine jg fun _ Q2 => ?_; refine sM ?_; refine w9 fun _ Q4 => ?_; refine sM ?_; refine sB h (fun _ h => ?_) fun _ h => ?_
 . exact au
 .
  refine sM ?_; refine sB h (fun _ h => ?_) fun _ h => ?_
  .
   refine sg fun _ Q9 => ?_; simp only [go_sem]; refine q6l h fun v_1 h => ?_; have rf_0 : [[.v (.int .i64 v_1.K), .v (.int .i64 v_1.V)]] = enc ([v_1] : List GRec) := by rfl
   simp only [go_sem]; simp only [rf_0]; exact au
  .
   refine sM ?_; refine sB h (fun _ h => ?_) fun _ h => ?_
   .
    refine sg fun _ Q11 => ?_; simp only [go_sem]; rcases hb_3 : (decide (xv_0.Arg < 1)) with _ | _
    .
     replace h := q2l h hb_3; obtain ⟨F, h⟩ := bG F h; simp only [go_sem, hb_3, F]; refine q8 Q11 (sB h (fun _ h => ?_) fun _ h => ?_)
     . exact au
     .
      refine y9 (q06 Q4 (q8 Q2 (sg fun _ Q13 => ?_))); have rf_1 : [[.v (.int .i64 rv_0.K), .v (.int .i64 rv_0.V)]] = enc ([rv_0] : List GRec) := by rfl
      simp only [go_sem]; simp only [rf_1]; exact au
    . replace h := q2k h hb_3; simp only [go_sem, hb_3]; exact au
   .
    refine y9 (q06 Q4 (q8 Q2 (sg fun _ Q15 => ?_))); have rf_2 : [[.v (.int .i64 rv_0.K), .v (.int .i64 rv_0.V)]] = enc ([rv_0] : List GRec) := by rfl
    simp only [go_sem]; simp only [rf_2]; exact au)
def q14 (mv_0 : GOps_maker) (rv_0 : GRec) (nv_0 : Int) : Option (Bool × GOps_maker) :=
 (if (decide ((i64.wrap (65536 - mv_0.many)) < nv_0)) = true then some (false, mv_0)
 else q03 ((mv_0.out.length + Xg ([(⟨rv_0, nv_0⟩ : GItem)] : List GItem)) * 24 <= 140737488355328) (
 some (true, (⟨(mv_0.out ++ ([(⟨rv_0, nv_0⟩ : GItem)] : List GItem)), i64.wrap (mv_0.many + nv_0)⟩ : GOps_maker))))
theorem q2r (mv_0 : GOps_maker) (rv_0 : GRec) (nv_0 : Int)  (r : Bool × GOps_maker) (h : q14 mv_0 rv_0 nv_0 = some r) : DetS pp 88 [.ptr 0 0, .agg (Row.row rv_0), .v (.int .i64 nv_0)] [(0, .box [.osl 1 3 (0) (mv_0.out.length), .v (.int .i64 mv_0.many)]), (1, .arr 3 (enc mv_0.out))] 2 (.v (.bool r.1)) [(0, .box [.osl 2 3 (0) (r.2.out.length), .v (.int .i64 r.2.many)]), (2, .arr 3 (enc r.2.out))] 3 := by
 refine dtI Tryz.func88 rfl ?_; rw [q14] at h; have F := trivial; refine sM ?_; refine sg fun _ Q2 => ?_; refine sM ?_; refine sB h (fun _ h => ?_) fun _ h => ?_
 . exact au
 .
  refine y9 (q8 Q2 (sM ?_)); refine sg fun _ Q6 => ?_; refine q0c ?_; refine q3v 10 0 0 [0, 0, 2, 6, 14, 0, 0, 96, 224, 510, 1023, 2047, 4095] [1, 3] [0] [] [9] [] mixed (by kernel_rfl) (of_decide_eq_true (by kernel_rfl)) (by kernel_rfl) (by kernel_rfl) (by rfl) ?_; have rf_0 : [[.v (.int .i64 rv_0.K), .v (.int .i64 rv_0.V), .v (.int .i64 nv_0)]] = enc ([(⟨rv_0, nv_0⟩ : GItem)] : List GItem) := by rfl
  obtain ⟨g_0, h⟩ := q0d h; have F := Xd F g_0; simp only [Xf, Xi, Xc, Xe] at g_0; have rf_1 : enc mv_0.out ++ [[.v (.int .i64 rv_0.K), .v (.int .i64 rv_0.V), .v (.int .i64 nv_0)]] = enc (mv_0.out ++ ([(⟨rv_0, nv_0⟩ : GItem)] : List GItem)) := by exact (q5b mv_0.out ([(⟨rv_0, nv_0⟩ : GItem)] : List GItem)).symm
  simp only [go_sem, g_0, rf_1]; simp only [rf_0]; exact au
def q4p (t13_1 : Int) (rec_1 : (Int × Int × (List GItem) -> Option (Bool × GOps_maker))) (xv_9 : GItem) (v_8 : List GRec) (rec_2 : Int × Int × (List GItem) -> Option (Bool × GOps_maker)) : Int × Int × (List GItem) -> Option (Bool × GOps_maker) :=
 fun (t22_5, b_8, a_7) =>
 (if (decide (t22_5 < (v_8.length : Int))) = true then q9 (idx v_8 t22_5) (fun xv_12 =>
 q9 (q14 (⟨a_7, b_8⟩ : GOps_maker) xv_12 xv_9.N) (fun v_11 =>
 (if (!v_11.1) = true then some (false, v_11.2)
 else rec_2 (i64.wrap (t22_5 + 1), v_11.2.many, v_11.2.out))))
 else rec_1 (i64.wrap (t13_1 + 1), b_8, a_7))
def q4q (xv_0 : GNode) (b_0 : List GItem) (rec_1 : Int × Int × (List GItem) -> Option (Bool × GOps_maker)) : Int × Int × (List GItem) -> Option (Bool × GOps_maker) :=
 fun (t13_1, b_6, a_5) =>
 (if (decide (t13_1 < (b_0.length : Int))) = true then q9 (idx b_0 t13_1) (fun xv_9 =>
 q9 (q78 xv_0 xv_9.Rec) (fun v_8 =>
 q05 (q4p t13_1 rec_1 xv_9 v_8) rounds (0, b_6, a_5)))
 else some (true, (⟨a_5, b_6⟩ : GOps_maker)))
def q2a (mv_0 : GOps_maker) (xv_0 : GNode) (b_0 : List GItem) : Option (Bool × GOps_maker) :=
 q05 (q4q xv_0 b_0) rounds (0, mv_0.many, mv_0.out)
theorem q6b (mv_0 : GOps_maker) (xv_0 : GNode) (b_0 : List GItem)  (r : Bool × GOps_maker) (h : q2a mv_0 xv_0 b_0 = some r) : DetS pp 87 [.ptr 0 0, .agg (Row.row xv_0), .sl 3 (enc b_0)] [(0, .box [.osl 1 3 (0) (mv_0.out.length), .v (.int .i64 mv_0.many)]), (1, .arr 3 (enc mv_0.out))] 2 (.v (.bool r.1)) [(0, .box [.osl 2 3 (0) (r.2.out.length), .v (.int .i64 r.2.many)]), (2, .arr 3 (enc r.2.out))] 3 := by
 refine dtI Tryz.func87 rfl ?_; rw [q2a] at h; have F := trivial; refine sM ?_; refine jg fun _ Q2 => ?_; refine sM ?_; refine w9 fun _ Q4 => ?_; refine q0x h [0, 4, 11, 12] (fun x => ([(13, .v (.int .i64 x.1))], [(0, .box [.osl 3 3 (0) (x.2.2.length), .v (.int .i64 x.2.1)]), (2, .box (Row.row xv_0)), (3, .arr 3 (enc x.2.2))])) 4 ?_; rintro m_1 ⟨t13_1, b_6, a_5⟩ h _ Q5; rw [q4q] at h; refine sM ?_; refine sg fun _ Q7 => ?_; refine sB h (fun _ h => ?_) fun _ h => ?_
 .
  refine y9 (q8 Q7 (jg fun _ Q8 => ?_)); refine w9 fun _ Q9 => ?_; refine sg fun _ Q10 => ?_; obtain ⟨xv_9, F, h⟩ := bI F h; simp only [go_sem, F]; refine ai ?_; refine q8 Q10 (sg fun _ Q11 => ?_); simp only [go_sem]; refine q6l h fun v_8 h => ?_; simp only [go_sem]; refine q8 Q11 (w9 fun _ Q12 => ?_); refine q0x h [0, 4, 11, 12, 13, 20, 21] (fun x => ([(8, .ptr 3 0), (22, .v (.int .i64 x.1))], [(0, .box [.osl 4 3 (0) (x.2.2.length), .v (.int .i64 x.2.1)]), (2, .box (Row.row xv_0)), (3, .box (Row.row xv_9)), (4, .arr 3 (enc x.2.2))])) 5 ?_; rintro m_2 ⟨t22_5, b_8, a_7⟩ h _ Q13; rw [q4p] at h; refine sM ?_; refine sg fun _ Q15 => ?_; refine sB h (fun _ h => ?_) fun _ h => ?_
  . refine y9 (q8 Q15 (sg fun _ Q16 => ?_)); refine w9 fun _ Q17 => ?_; refine sg fun _ Q18 => ?_; obtain ⟨xv_12, F, h⟩ := bI F h; simp only [go_sem, F]; refine ai ?_; refine q8 Q18 (sg fun _ Q19 => ?_); obtain ⟨v_11, ev_11, h⟩ := z8 h; simp only [go_sem]; refine q20 [0, 4] (q2r (⟨a_7, b_8⟩ : GOps_maker) xv_12 xv_9.N v_11 ev_11) ?_; simp only [go_sem]; exact au
  . exact au
 . exact au
def q5r (mv_0 : GOps_maker) (rec_1 : Int × (List GItem) -> Option ((List GItem) × GOps_maker)) : Int × (List GItem) -> Option ((List GItem) × GOps_maker) :=
 fun (t11_1, a_1) =>
 (if (decide (t11_1 < (mv_0.out.length : Int))) = true then q9 (idx mv_0.out t11_1) (fun xv_2 =>
 q9 (qw6 a_1 xv_2.Rec xv_2.N) (fun v_2 =>
 rec_1 (i64.wrap (t11_1 + 1), v_2)))
 else some (a_1, mv_0))
def q51 (mv_0 : GOps_maker) : Option ((List GItem) × GOps_maker) :=
 q05 (q5r mv_0) rounds (0, [])
theorem qu0 (mv_0 : GOps_maker)  (r : (List GItem) × GOps_maker) (h : q51 mv_0 = some r) : DetS pp 91 [.ptr 0 0] [(0, .box [.osl 1 3 (0) (mv_0.out.length), .v (.int .i64 mv_0.many)]), (1, .arr 3 (enc mv_0.out))] 2 (.osl 2 3 (0) (r.1.length)) [(0, .box [.osl 3 3 (0) (r.2.out.length), .v (.int .i64 r.2.many)]), (2, .arr 3 (enc r.1)), (3, .arr 3 (enc r.2.out))] 4 := by
 refine dtI Tryz.func91 rfl ?_; rw [q51] at h; have F := trivial; refine sM ?_; refine sM ?_; refine jg fun _ Q3 => ?_; refine sM ?_; refine w9 fun _ Q5 => ?_; refine q0x h [9, 10] (fun x => ([(3, .osl 2 3 (0) (x.2.length)), (11, .v (.int .i64 x.1))], [(0, .box [.osl 1 3 (0) (mv_0.out.length), .v (.int .i64 mv_0.many)]), (1, .arr 3 (enc mv_0.out)), (2, .arr 3 (enc x.2))])) 3 ?_; rintro m_1 ⟨t11_1, a_1⟩ h _ Q6; rw [q5r] at h; refine sM ?_; refine sg fun _ Q8 => ?_; refine sB h (fun _ h => ?_) fun _ h => ?_
 . refine y9 (q8 Q8 (sg fun _ Q9 => ?_)); refine w9 fun _ Q10 => ?_; refine sg fun _ Q11 => ?_; obtain ⟨xv_2, F, h⟩ := bI F h; simp only [go_sem, F]; refine ai ?_; refine q8 Q11 ?_; obtain ⟨v_2, ev_2, h⟩ := z8 h; simp only [go_sem]; refine qf6 [9, 10, 11] ([(3, .sl 3 (enc a_1))], [(0, .box [.osl 1 3 (0) (mv_0.out.length), .v (.int .i64 mv_0.many)]), (1, .arr 3 (enc mv_0.out)), (2, .box (Row.row xv_2))]) 3 [some 3] [.sl 3 (enc a_1), .agg (Row.row xv_2.Rec), .v (.int .i64 xv_2.N)] ?_; refine q20 [] (zg2 a_1 xv_2.Rec xv_2.N v_2 ev_2) ?_; simp only [go_sem]; exact au
 . exact au
def qm0 (x_0 : Int) (y_0 : Int) (c_0 : Int) : Option (Int × Int) := zi8 x_0 y_0 c_0
theorem z3h (x_0 : Int) (y_0 : Int) (c_0 : Int) (r : Int × Int) (h : qm0 x_0 y_0 c_0 = some r) : PureS pp 132 [.v (.int .u64 x_0), .v (.int .u64 y_0), .v (.int .u64 c_0)] 0 (.tup [.v (.int .u64 r.1), .v (.int .u64 r.2)]) :=
  zw5 Tryz.func132 (by kernel_rfl) (by kernel_rfl) (by kernel_rfl) (by kernel_rfl) h
def qm1 (x_0 : Int) (y_0 : Int) (c_0 : Int) : Option (Int × Int) := zp4 x_0 y_0 c_0
theorem z3i (x_0 : Int) (y_0 : Int) (c_0 : Int) (r : Int × Int) (h : qm1 x_0 y_0 c_0 = some r) : PureS pp 133 [.v (.int .u64 x_0), .v (.int .u64 y_0), .v (.int .u64 c_0)] 0 (.tup [.v (.int .u64 r.1), .v (.int .u64 r.2)]) :=
  j0o Tryz.func133 (by kernel_rfl) (by kernel_rfl) (by kernel_rfl) (by kernel_rfl) h
def q6i (w_0 : GOps_wide) (v_0 : Int) (nv_0 : Int) (size_0 : Int) : Option GOps_wide :=
 q9 (q3f size_0 (IntKind.u64.wrap nv_0)) (fun v_1 =>
 (if (decide (v_0 < 0)) = true then q9 (qm0 w_0.lo.n v_1.2 0) (fun v_2 =>
 some (⟨i64.wrap (w_0.hi - (i64.wrap ((i64.wrap v_1.1) + (i64.wrap v_2.2)))), (⟨v_2.1⟩ : Nu64)⟩ : GOps_wide))
 else q9 (qm1 w_0.lo.n v_1.2 0) (fun v_3 =>
 some (⟨i64.wrap (w_0.hi + (i64.wrap ((i64.wrap v_1.1) + (i64.wrap v_3.2)))), (⟨v_3.1⟩ : Nu64)⟩ : GOps_wide))))
def q9u (w_0 : GOps_wide) (v_0 : Int) (nv_0 : Int) : Option GOps_wide :=
 (if (decide (v_0 < 0)) = true then q6i w_0 v_0 nv_0 (IntKind.u64.wrap (0 - (IntKind.u64.wrap v_0)))
 else q6i w_0 v_0 nv_0 (IntKind.u64.wrap v_0))
instance j36 (w_0 : GOps_wide) (v_0 : Int) (nv_0 : Int) : Ct pp 126 (q9u w_0 v_0 nv_0) [.agg (Row.row w_0), .v (.int .i64 v_0), .v (.int .i64 nv_0)] fun r => (.agg (Row.row r)) := ctK Tryz.func126 rfl (by rw [q9u]) (by
 intro r h F; refine sM ?_; refine sM ?_; refine q52 (fun (size_0 : Int) => q6i w_0 v_0 nv_0 size_0 = some r) [1, 2, 3, 6] (fun size_0 => ([(7, .v (.int .u64 size_0))], [(0, .box (Row.row w_0)), (1, .box [.v (.int .i64 0), .v (.int .u64 0)])])) 2 ?_ ?_
 . intro _ Q13; exact au
 .
  rintro size_0 h
  try dsimp only at h
  rw [q6i] at h; refine sg fun _ Q3 => ?_; simp only [go_sem]; refine q6l h fun v_1 h => ?_; simp only [go_sem]; refine q8 Q3 (sM ?_); refine sg fun _ Q5 => ?_; refine sM ?_; refine sB h (fun _ h => ?_) fun _ h => ?_
  . refine sg fun _ Q7 => ?_; obtain ⟨v_2, ev_2, h⟩ := z8 h; simp only [go_sem]; refine q7w (z3h w_0.lo.n v_1.2 0 v_2 ev_2) (by rfl) (by rfl) ?_; simp only [go_sem]; exact au
  . refine y9 (q8 Q5 (sg fun _ Q10 => ?_)); obtain ⟨v_3, ev_3, h⟩ := z8 h; simp only [go_sem]; refine q7w (z3i w_0.lo.n v_1.2 0 v_3 ev_3) (by rfl) (by rfl) ?_; simp only [go_sem]; exact au)
def qr5 (l_0 : List GItem) (rec_1 : Int × GOps_wide -> Option GOps_wide) : Int × GOps_wide -> Option GOps_wide :=
 fun (t8_1, b_1) =>
 (if (decide (t8_1 < (l_0.length : Int))) = true then q9 (idx l_0 t8_1) (fun xv_2 =>
 q9 (q9u b_1 xv_2.Rec.V xv_2.N) (fun v_2 =>
 rec_1 (i64.wrap (t8_1 + 1), v_2)))
 else some b_1)
def qa0 (l_0 : List GItem) : Option GOps_wide :=
 q05 (qr5 l_0) rounds (0, (⟨0, (⟨0⟩ : Nu64)⟩ : GOps_wide))
instance z4s (l_0 : List GItem) : Ct pp 113 (qa0 l_0) [.sl 3 (enc l_0)] fun r => (.agg (Row.row r)) := ctK Tryz.func113 rfl (by rw [qa0]) (by
 intro r h F; refine sM ?_; refine sM ?_; refine jg fun _ Q3 => ?_; refine sM ?_; refine w9 fun _ Q5 => ?_; refine q0x h [2, 3, 6, 7] (fun x => ([(8, .v (.int .i64 x.1))], [(0, .box [.v (.int .i64 0), .v (.int .u64 0)]), (1, .box (Row.row x.2))])) 2 ?_; rintro m_1 ⟨t8_1, b_1⟩ h _ Q6; rw [qr5] at h; exact au)
def q46 (w_0 : GOps_wide) (k_0 : Int) : Option GRec :=
 (if (((w_0.hi == 0) && (decide (0 <= (i64.wrap w_0.lo.n)))) || ((w_0.hi == (-1)) && (decide ((i64.wrap w_0.lo.n) < 0)))) = true then some (⟨k_0, i64.wrap w_0.lo.n⟩ : GRec)
 else q9 (qf1 k_0) (fun v_0 =>
 some v_0))
instance qr4 (w_0 : GOps_wide) (k_0 : Int) : Ct pp 114 (q46 w_0 k_0) [.agg (Row.row w_0), .v (.int .i64 k_0)] fun r => (.agg (Row.row r)) := ctI Tryz.func114 rfl (by rw [q46]; exact au1)
def q4c (b_2 : Int) (a_12 : List GItem) (rec_1 : (Int × Int × (List GItem) -> Option (Bool × GOps_maker))) (tov_12 : Int) (xv_63 : GItem) (a_15 : List GItem) : Option (Bool × GOps_maker) :=
 q9 (qa0 a_15) (fun v_26 =>
 q9 (q46 v_26 xv_63.Rec.K) (fun v_27 =>
 q9 (q14 (⟨a_12, b_2⟩ : GOps_maker) v_27 1) (fun v_28 =>
 (if (!v_28.1) = true then some (false, v_28.2)
 else rec_1 (tov_12, v_28.2.many, v_28.2.out)))))
def q4e (b_0 : List GItem) (b_2 : Int) (a_12 : List GItem) (rec_1 : (Int × Int × (List GItem) -> Option (Bool × GOps_maker))) (tov_12 : Int) (xv_63 : GItem) (rec_5 : Int × (List GItem) -> Option (Bool × GOps_maker)) : Int × (List GItem) -> Option (Bool × GOps_maker) :=
 fun (t43_11, a_17) =>
 (if (decide (t43_11 < (b_0.length : Int))) = true then q9 (idx b_0 t43_11) (fun xv_75 =>
 (if (xv_75.Rec.K == xv_63.Rec.K) = true then q03 ((a_17.length + Xg ([xv_75] : List GItem)) * 24 <= 140737488355328) (
 rec_5 (i64.wrap (t43_11 + 1), (a_17 ++ ([xv_75] : List GItem))))
 else rec_5 (i64.wrap (t43_11 + 1), a_17)))
 else q4c b_2 a_12 rec_1 tov_12 xv_63 a_17)
def q4d (b_0 : List GItem) (b_2 : Int) (a_12 : List GItem) (rec_1 : (Int × Int × (List GItem) -> Option (Bool × GOps_maker))) (tov_12 : Int) (xv_63 : GItem) : Option (Bool × GOps_maker) :=
 q05 (q4e b_0 b_2 a_12 rec_1 tov_12 xv_63) rounds (0, [])
def q4b (b_2 : Int) (a_12 : List GItem) (rec_1 : (Int × Int × (List GItem) -> Option (Bool × GOps_maker))) (tov_12 : Int) (xv_63 : GItem) (nv_27 : Int) : Option (Bool × GOps_maker) :=
 q9 (q14 (⟨a_12, b_2⟩ : GOps_maker) (⟨xv_63.Rec.K, nv_27⟩ : GRec) 1) (fun v_29 =>
 (if (!v_29.1) = true then some (false, v_29.2)
 else rec_1 (tov_12, v_29.2.many, v_29.2.out)))
def q6c (a_0 : List GItem) (fromv_1 : Int) (b_2 : Int) (a_12 : List GItem) (rec_1 : (Int × Int × (List GItem) -> Option (Bool × GOps_maker))) (tov_12 : Int) (xv_63 : GItem) (rec_7 : Int × Int -> Option (Bool × GOps_maker)) : Int × Int -> Option (Bool × GOps_maker) :=
 fun (nv_29, t19_23) =>
 (if (decide (t19_23 < (Xg (Xk (fromv_1.toNat) (Xb (tov_12.toNat) a_0)) : Int))) = true then q9 (idx (Xk (fromv_1.toNat) (Xb (tov_12.toNat) a_0)) t19_23) (fun xv_81 =>
 rec_7 (i64.wrap (nv_29 + xv_81.N), i64.wrap (t19_23 + 1)))
 else q4b b_2 a_12 rec_1 tov_12 xv_63 nv_29)
def q25 (kind_0 : Int) (a_0 : List GItem) (b_0 : List GItem) (fromv_1 : Int) (b_2 : Int) (a_12 : List GItem) (rec_1 : (Int × Int × (List GItem) -> Option (Bool × GOps_maker))) (tov_12 : Int) : Option (Bool × GOps_maker) :=
 q9 (idx a_0 fromv_1) (fun xv_63 =>
 q03 (0 <= fromv_1 /\ fromv_1 <= tov_12 /\ tov_12 <= (a_0.length : Int)) (
 (if (kind_0 == 7) = true then q05 (q6c a_0 fromv_1 b_2 a_12 rec_1 tov_12 xv_63) rounds (0, 0)
 else (if (kind_0 == 6) = true then q9 (qa0 (Xk (fromv_1.toNat) (Xb (tov_12.toNat) a_0))) (fun v_30 =>
 q9 (q46 v_30 xv_63.Rec.K) (fun v_31 =>
 q9 (q14 (⟨a_12, b_2⟩ : GOps_maker) v_31 1) (fun v_32 =>
 (if (!v_32.1) = true then some (false, v_32.2)
 else rec_1 (tov_12, v_32.2.many, v_32.2.out)))))
 else q4d b_0 b_2 a_12 rec_1 tov_12 xv_63))))
def q98 (kind_0 : Int) (a_0 : List GItem) (b_0 : List GItem) (fromv_1 : Int) (b_2 : Int) (a_12 : List GItem) (rec_1 : (Int × Int × (List GItem) -> Option (Bool × GOps_maker))) (rec_8 : Int -> Option (Bool × GOps_maker)) : Int -> Option (Bool × GOps_maker) :=
 fun tov_14 =>
 (if (decide (tov_14 < (a_0.length : Int))) = true then q9 (idx a_0 tov_14) (fun xv_85 =>
 q9 (idx a_0 fromv_1) (fun xv_86 =>
 (if (xv_85.Rec.K == xv_86.Rec.K) = true then rec_8 (i64.wrap (tov_14 + 1))
 else q25 kind_0 a_0 b_0 fromv_1 b_2 a_12 rec_1 tov_14)))
 else q25 kind_0 a_0 b_0 fromv_1 b_2 a_12 rec_1 tov_14)
def q1k (kind_0 : Int) (a_0 : List GItem) (b_0 : List GItem) (rec_1 : Int × Int × (List GItem) -> Option (Bool × GOps_maker)) : Int × Int × (List GItem) -> Option (Bool × GOps_maker) :=
 fun (fromv_1, b_2, a_12) =>
 (if (decide (fromv_1 < (a_0.length : Int))) = true then q05 (q98 kind_0 a_0 b_0 fromv_1 b_2 a_12 rec_1) rounds fromv_1
 else some (true, (⟨a_12, b_2⟩ : GOps_maker)))
def q3t (mv_0 : GOps_maker) (kind_0 : Int) (a_0 : List GItem) (b_0 : List GItem) : Option (Bool × GOps_maker) :=
 q05 (q1k kind_0 a_0 b_0) rounds (0, mv_0.many, mv_0.out)
theorem qp8 (mv_0 : GOps_maker) (kind_0 : Int) (a_0 : List GItem) (b_0 : List GItem)  (r : Bool × GOps_maker) (h : q3t mv_0 kind_0 a_0 b_0 = some r) : DetS pp 90 [.ptr 0 0, .v (.int .i64 kind_0), .sl 3 (enc a_0), .sl 3 (enc b_0)] [(0, .box [.osl 1 3 (0) (mv_0.out.length), .v (.int .i64 mv_0.many)]), (1, .arr 3 (enc mv_0.out))] 2 (.v (.bool r.1)) [(0, .box [.osl 2 3 (0) (r.2.out.length), .v (.int .i64 r.2.many)]), (2, .arr 3 (enc r.2.out))] 3 := by
 refine dtI Tryz.func90 rfl ?_; rw [q3t] at h; have F := trivial; refine sM ?_; refine sg fun _ Q2 => ?_; simp only [go_sem]; refine q7b Tryz.func109 rfl (by kernel_rfl) (by kernel_rfl) ?_; refine sM ?_; refine jg fun _ Q4 => ?_; refine sM ?_; refine w9 fun _ Q6 => ?_; refine q0x h [0, 1] (fun x => ([(5, .v (.int .i64 x.1))], [(0, .box [.osl 5 3 (0) (x.2.2.length), .v (.int .i64 x.2.1)]), (2, .box [.ptr 0 0]), (3, .box [.v (.int .i64 kind_0)]), (4, .box [.sl 3 (enc b_0)]), (5, .arr 3 (enc x.2.2))])) 6 ?_; rintro m_1 ⟨fromv_1, b_2, a_12⟩ h _ Q7; rw [q1k] at h; refine sg fun _ Q8 => ?_; refine sM ?_; refine sB h (fun _ h => ?_) fun _ h => ?_
 .
  refine y9 (q8 Q8 (w9 fun _ Q10 => ?_)); refine sM ?_; refine q52 (fun (tov_12 : Int) => q25 kind_0 a_0 b_0 fromv_1 b_2 a_12 (q05 (q1k kind_0 a_0 b_0) m_1) tov_12 = some r) [0, 1, 5] (fun tov_12 => ([(6, .v (.int .i64 tov_12))], [(0, .box [.osl 5 3 (0) (a_12.length), .v (.int .i64 b_2)]), (2, .box [.ptr 0 0]), (3, .box [.v (.int .i64 kind_0)]), (4, .box [.sl 3 (enc b_0)]), (5, .arr 3 (enc a_12))])) 6 ?_ ?_
  .
   intro _ Q47; refine w9 fun _ Q48 => ?_; refine q0x h [0, 1, 5] (fun tov_14 => ([(6, .v (.int .i64 tov_14))], [(0, .box [.osl 5 3 (0) (a_12.length), .v (.int .i64 b_2)]), (2, .box [.ptr 0 0]), (3, .box [.v (.int .i64 kind_0)]), (4, .box [.sl 3 (enc b_0)]), (5, .arr 3 (enc a_12))])) 6 ?_; rintro m_8 tov_14 h _ Q49; rw [q98] at h; refine sg fun _ Q50 => ?_; refine sg fun _ Q51 => ?_; refine q0c ?_; refine jb1 ?_; simp only [go_sem]; rcases hb_130 : (decide (tov_14 < (a_0.length : Int))) with _ | _
   . replace h := q2l h hb_130; simp only [go_sem, hb_130]; exact au
   . replace h := q2k h hb_130; obtain ⟨xv_85, F, h⟩ := bI F h; obtain ⟨xv_86, F, h⟩ := bI F h; simp only [go_sem, hb_130, F]; refine ai ?_; refine ai ?_; exact au
  .
   rintro tov_12 h
   try dsimp only at h
   rw [q25] at h; refine sg fun _ Q12 => ?_; refine sg fun _ Q13 => ?_; refine q0c ?_; refine jb1 ?_; obtain ⟨xv_63, F, h⟩ := bI F h; obtain ⟨F, h⟩ := bG F h; simp only [go_sem, F]; refine ai ?_; refine q7b Tryz.func112 rfl (by kernel_rfl) (by kernel_rfl) ?_; refine sM ?_; refine q52 (fun (_ : Unit) => q4d b_0 b_2 a_12 (q05 (q1k kind_0 a_0 b_0) m_1) tov_12 xv_63 = some r) [0, 3, 4] (fun _ => ([], [(0, .box [.osl 5 3 (0) (a_12.length), .v (.int .i64 b_2)]), (2, .box [.ptr 0 0]), (3, .box [.v (.int .i64 kind_0)]), (4, .box [.sl 3 (enc b_0)]), (5, .arr 3 (enc a_12))])) 6 ?_ ?_
   .
    intro _ Q28; refine sM ?_; refine w9 fun _ Q30 => ?_; refine sM ?_; refine sB h (fun _ h => ?_) fun _ h => ?_
    .
     refine sM ?_; refine q52 (fun (nv_27 : Int) => q4b b_2 a_12 (q05 (q1k kind_0 a_0 b_0) m_1) tov_12 xv_63 nv_27 = some r) [0, 3] (fun nv_27 => ([(8, .v (.int .i64 nv_27))], [(0, .box [.osl 5 3 (0) (a_12.length), .v (.int .i64 b_2)]), (2, .box [.ptr 0 0]), (3, .box [.v (.int .i64 kind_0)]), (4, .box [.sl 3 (enc b_0)]), (5, .arr 3 (enc a_12))])) 6 ?_ ?_
     . intro _ Q35; refine sM ?_; refine w9 fun _ Q37 => ?_; refine q0x h [0, 3, 17, 18] (fun x => ([(8, .v (.int .i64 x.1)), (19, .v (.int .i64 x.2))], [(0, .box [.osl 5 3 (0) (a_12.length), .v (.int .i64 b_2)]), (2, .box [.ptr 0 0]), (3, .box [.v (.int .i64 kind_0)]), (4, .box [.sl 3 (enc b_0)]), (5, .arr 3 (enc a_12))])) 6 ?_; rintro m_7 ⟨nv_29, t19_23⟩ h _ Q38; rw [q6c] at h; exact au
     .
      rintro nv_27 h
      try dsimp only at h
      rw [q4b] at h; refine sg fun _ Q33 => ?_; obtain ⟨v_29, ev_29, h⟩ := z8 h; simp only [go_sem]; refine q20 [0, 5] (q2r (⟨a_12, b_2⟩ : GOps_maker) (⟨xv_63.Rec.K, nv_27⟩ : GRec) 1 v_29 ev_29) ?_; simp only [go_sem]; refine q8 Q33 (q02 (q0m Q30 (q2b Q28 ?_))); simp only [go_sem]; refine q1t [some 6] [(0, .box [.osl 6 3 (0) (v_29.2.out.length), .v (.int .i64 v_29.2.many)]), (2, .box [.ptr 0 0]), (3, .box [.v (.int .i64 kind_0)]), (4, .box [.sl 3 (enc b_0)]), (6, .arr 3 (enc v_29.2.out))] 7 (.v (.bool v_29.1)) ?_ ?_
      . exact leA
      refine q2g ?_; simp only [go_sem]; refine q8 Q13 (sB h (fun _ h => ?_) fun _ h => ?_)
      .
       refine sM ?_; refine q02 (q0s Q12 (q0m Q10 (q2b Q7 (q0m Q6 (q0s Q4 ?_))))); simp only [go_sem]; refine q1t [some 6] [(0, .box [.osl 5 3 (0) (v_29.2.out.length), .v (.int .i64 v_29.2.many)]), (2, .box [.ptr 0 0]), (3, .box [.v (.int .i64 kind_0)]), (4, .box [.sl 3 (enc b_0)]), (5, .arr 3 (enc v_29.2.out))] 6 (.v (.bool false)) ?_ ?_
       . exact leA
       refine q2g ?_; simp only [go_sem]; exact au
      . exact au
    .
     refine sM ?_; refine sB h (fun _ h => ?_) fun _ h => ?_
     .
      refine sg fun _ Q45 => ?_; refine q0c ?_; refine jb1 ?_; obtain ⟨v_30, ev_30, h⟩ := z8 h; simp only [go_sem]; refine callq (fun _ => (z4s (Xk (fromv_1.toNat) (Xb (tov_12.toNat) a_0)) v_30 ev_30)) (by rfl) (by rfl) ?_; obtain ⟨v_31, ev_31, h⟩ := z8 h; simp only [go_sem]; refine callq (fun _ => (qr4 v_30 xv_63.Rec.K v_31 ev_31)) (by rfl) (by rfl) ?_; obtain ⟨v_32, ev_32, h⟩ := z8 h; simp only [go_sem]; refine q20 [0, 5] (q2r (⟨a_12, b_2⟩ : GOps_maker) v_31 1 v_32 ev_32) ?_; simp only [go_sem]; refine q8 Q45 (q02 (q0m Q30 (q2b Q28 ?_))); simp only [go_sem]; refine q1t [some 6] [(0, .box [.osl 6 3 (0) (v_32.2.out.length), .v (.int .i64 v_32.2.many)]), (2, .box [.ptr 0 0]), (3, .box [.v (.int .i64 kind_0)]), (4, .box [.sl 3 (enc b_0)]), (6, .arr 3 (enc v_32.2.out))] 7 (.v (.bool v_32.1)) ?_ ?_
      . exact leA
      refine q2g ?_; simp only [go_sem]; refine q8 Q13 (sB h (fun _ h => ?_) fun _ h => ?_)
      .
       refine sM ?_; refine q02 (q0s Q12 (q0m Q10 (q2b Q7 (q0m Q6 (q0s Q4 ?_))))); simp only [go_sem]; refine q1t [some 6] [(0, .box [.osl 5 3 (0) (v_32.2.out.length), .v (.int .i64 v_32.2.many)]), (2, .box [.ptr 0 0]), (3, .box [.v (.int .i64 kind_0)]), (4, .box [.sl 3 (enc b_0)]), (5, .arr 3 (enc v_32.2.out))] 6 (.v (.bool false)) ?_ ?_
       . exact leA
       refine q2g ?_; simp only [go_sem]; exact au
      . exact au
     . exact au
   .
    rintro ⟨⟩ h
    try dsimp only at h
    rw [q4d] at h; refine sM ?_; refine q52 (fun (a_15 : (List GItem)) => q4c b_2 a_12 (q05 (q1k kind_0 a_0 b_0) m_1) tov_12 xv_63 a_15 = some r) [0, 3] (fun a_15 => ([(11, .osl 6 3 (0) (a_15.length))], [(0, .box [.osl 5 3 (0) (a_12.length), .v (.int .i64 b_2)]), (2, .box [.ptr 0 0]), (3, .box [.v (.int .i64 kind_0)]), (4, .box [.sl 3 (enc b_0)]), (5, .arr 3 (enc a_12)), (6, .arr 3 (enc a_15))])) 7 ?_ ?_
    .
     intro _ Q18; refine sM ?_; refine w9 fun _ Q20 => ?_; refine q0x h [0, 3, 41, 42] (fun x => ([(11, .osl 6 3 (0) (x.2.length)), (43, .v (.int .i64 x.1))], [(0, .box [.osl 5 3 (0) (a_12.length), .v (.int .i64 b_2)]), (2, .box [.ptr 0 0]), (3, .box [.v (.int .i64 kind_0)]), (4, .box [.sl 3 (enc b_0)]), (5, .arr 3 (enc a_12)), (6, .arr 3 (enc x.2))])) 7 ?_; rintro m_5 ⟨t43_11, a_17⟩ h _ Q21; rw [q4e] at h; refine sM ?_; refine sg fun _ Q23 => ?_; refine sB h (fun _ h => ?_) fun _ h => ?_
     .
      refine y9 (q8 Q23 (jg fun _ Q24 => ?_)); refine w9 fun _ Q25 => ?_; refine sg fun _ Q26 => ?_; obtain ⟨xv_75, F, h⟩ := bI F h; simp only [go_sem, F]; refine ai ?_; refine q8 Q26 (sM ?_); refine sB h (fun _ h => ?_) fun _ h => ?_
      .
       have rf_28 : [[.v (.int .i64 xv_75.Rec.K), .v (.int .i64 xv_75.Rec.V), .v (.int .i64 xv_75.N)]] = enc ([xv_75] : List GItem) := by rfl
       obtain ⟨g_20, h⟩ := q0d h; have F := Xd F g_20; simp only [Xf, Xi, Xc, Xe] at g_20; have rf_29 : enc a_17 ++ [[.v (.int .i64 xv_75.Rec.K), .v (.int .i64 xv_75.Rec.V), .v (.int .i64 xv_75.N)]] = enc (a_17 ++ ([xv_75] : List GItem)) := by exact (q5b a_17 ([xv_75] : List GItem)).symm
       simp only [go_sem, g_20, rf_29]; simp only [rf_28]; exact au
      . exact au
     . exact au
    .
     rintro a_15 h
     try dsimp only at h
     rw [q4c] at h; refine sg fun _ Q16 => ?_; refine q0c ?_; refine j0d (s' := (⟨6, [(0, .v (.int .i64 xv_63.Rec.K)), (3, .ptr 2 0), (11, .sl 3 (enc a_15))], [(0, .box [.osl 5 3 (0) (a_12.length), .v (.int .i64 b_2)]), (2, .box [.ptr 0 0]), (3, .box [.v (.int .i64 kind_0)]), (4, .box [.sl 3 (enc b_0)]), (5, .arr 3 (enc a_12))], 6, 63⟩ : St)) (l := []) ?_ ?_
     . exact leA
     refine jb1 ?_; obtain ⟨v_26, ev_26, h⟩ := z8 h; simp only [go_sem]; refine callq (fun _ => (z4s a_15 v_26 ev_26)) (by rfl) (by rfl) ?_; obtain ⟨v_27, ev_27, h⟩ := z8 h; simp only [go_sem]; refine callq (fun _ => (qr4 v_26 xv_63.Rec.K v_27 ev_27)) (by rfl) (by rfl) ?_; obtain ⟨v_28, ev_28, h⟩ := z8 h; simp only [go_sem]; refine q20 [0, 5] (q2r (⟨a_12, b_2⟩ : GOps_maker) v_27 1 v_28 ev_28) ?_; simp only [go_sem]; refine q8 Q16 (q02 ?_); simp only [go_sem]; refine q1t [some 6] [(0, .box [.osl 6 3 (0) (v_28.2.out.length), .v (.int .i64 v_28.2.many)]), (2, .box [.ptr 0 0]), (3, .box [.v (.int .i64 kind_0)]), (4, .box [.sl 3 (enc b_0)]), (6, .arr 3 (enc v_28.2.out))] 7 (.v (.bool v_28.1)) ?_ ?_
     . exact leA
     refine q2g ?_; simp only [go_sem]; refine q8 Q13 (sB h (fun _ h => ?_) fun _ h => ?_)
     .
      refine sM ?_; refine q02 (q0s Q12 (q0m Q10 (q2b Q7 (q0m Q6 (q0s Q4 ?_))))); simp only [go_sem]; refine q1t [some 6] [(0, .box [.osl 5 3 (0) (v_28.2.out.length), .v (.int .i64 v_28.2.many)]), (2, .box [.ptr 0 0]), (3, .box [.v (.int .i64 kind_0)]), (4, .box [.sl 3 (enc b_0)]), (5, .arr 3 (enc v_28.2.out))] 6 (.v (.bool false)) ?_ ?_
      . exact leA
      refine q2g ?_; simp only [go_sem]; exact au
     . exact au
 .
  refine q0q (q1p Q8 (q0r Q7 (q0i Q6 (q8 Q4 (sM ?_))))); refine q02 ?_; simp only [go_sem]; refine q1t [some 5] [(0, .box [.osl 5 3 (0) (a_12.length), .v (.int .i64 b_2)]), (2, .box [.ptr 0 0]), (3, .box [.v (.int .i64 kind_0)]), (4, .box [.sl 3 (enc b_0)]), (5, .arr 3 (enc a_12))] 6 (.v (.bool true)) ?_ ?_
  . exact leA
  refine q2g ?_; simp only [go_sem]; exact au
def q5o (b_0 : List GItem) (xv_51 : GItem) (t13_5 : Int) (rec_3 : (Int × Int × (List GItem) -> Option (Bool × GOps_maker))) (xv_60 : GItem) (rec_4 : Int × Int × (List GItem) -> Option (Bool × GOps_maker)) : Int × Int × (List GItem) -> Option (Bool × GOps_maker) :=
 fun (t19_17, b_26, a_26) =>
 (if (decide (t19_17 < (b_0.length : Int))) = true then q9 (idx b_0 t19_17) (fun xv_63 =>
 (if (!(xv_63.Rec.K == xv_51.Rec.K)) = true then rec_4 (i64.wrap (t19_17 + 1), b_26, a_26)
 else (if ((decide (65536 < xv_60.N)) || (decide (65536 < xv_63.N))) = true then some (false, (⟨a_26, b_26⟩ : GOps_maker))
 else q9 (q97 xv_51.Rec.K xv_60.Rec.V xv_63.Rec.V) (fun v_52 =>
 q9 (q14 (⟨a_26, b_26⟩ : GOps_maker) v_52 (i64.wrap (xv_60.N * xv_63.N))) (fun v_53 =>
 (if (!v_53.1) = true then some (false, v_53.2)
 else rec_4 (i64.wrap (t19_17 + 1), v_53.2.many, v_53.2.out)))))))
 else rec_3 (i64.wrap (t13_5 + 1), b_26, a_26))
def q5p (a_0 : List GItem) (b_0 : List GItem) (fromv_1 : Int) (rec_1 : (Int × Int × (List GItem) -> Option (Bool × GOps_maker))) (tov_12 : Int) (xv_51 : GItem) (rec_3 : Int × Int × (List GItem) -> Option (Bool × GOps_maker)) : Int × Int × (List GItem) -> Option (Bool × GOps_maker) :=
 fun (t13_5, b_24, a_24) =>
 (if (decide (t13_5 < (Xg (Xk (fromv_1.toNat) (Xb (tov_12.toNat) a_0)) : Int))) = true then q9 (idx (Xk (fromv_1.toNat) (Xb (tov_12.toNat) a_0)) t13_5) (fun xv_60 =>
 q05 (q5o b_0 xv_51 t13_5 rec_3 xv_60) rounds (0, b_24, a_24))
 else rec_1 (tov_12, b_24, a_24))
def q2q (a_0 : List GItem) (b_0 : List GItem) (fromv_1 : Int) (b_18 : Int) (a_18 : List GItem) (rec_1 : (Int × Int × (List GItem) -> Option (Bool × GOps_maker))) (tov_12 : Int) : Option (Bool × GOps_maker) :=
 q9 (idx a_0 fromv_1) (fun xv_51 =>
 q03 (0 <= fromv_1 /\ fromv_1 <= tov_12 /\ tov_12 <= (a_0.length : Int)) (
 q05 (q5p a_0 b_0 fromv_1 rec_1 tov_12 xv_51) rounds (0, b_18, a_18)))
def qa1 (a_0 : List GItem) (b_0 : List GItem) (fromv_1 : Int) (b_18 : Int) (a_18 : List GItem) (rec_1 : (Int × Int × (List GItem) -> Option (Bool × GOps_maker))) (rec_5 : Int -> Option (Bool × GOps_maker)) : Int -> Option (Bool × GOps_maker) :=
 fun tov_14 =>
 (if (decide (tov_14 < (a_0.length : Int))) = true then q9 (idx a_0 tov_14) (fun xv_67 =>
 q9 (idx a_0 fromv_1) (fun xv_68 =>
 (if (xv_67.Rec.K == xv_68.Rec.K) = true then rec_5 (i64.wrap (tov_14 + 1))
 else q2q a_0 b_0 fromv_1 b_18 a_18 rec_1 tov_14)))
 else q2q a_0 b_0 fromv_1 b_18 a_18 rec_1 tov_14)
def q5q (a_0 : List GItem) (b_0 : List GItem) (rec_1 : Int × Int × (List GItem) -> Option (Bool × GOps_maker)) : Int × Int × (List GItem) -> Option (Bool × GOps_maker) :=
 fun (fromv_1, b_18, a_18) =>
 (if (decide (fromv_1 < (a_0.length : Int))) = true then q05 (qa1 a_0 b_0 fromv_1 b_18 a_18 rec_1) rounds fromv_1
 else some (true, (⟨a_18, b_18⟩ : GOps_maker)))
def q50 (mv_0 : GOps_maker) (a_0 : List GItem) (b_0 : List GItem) : Option (Bool × GOps_maker) :=
 q05 (q5q a_0 b_0) rounds (0, mv_0.many, mv_0.out)
theorem qt9 (mv_0 : GOps_maker) (a_0 : List GItem) (b_0 : List GItem)  (r : Bool × GOps_maker) (h : q50 mv_0 a_0 b_0 = some r) : DetS pp 89 [.ptr 0 0, .sl 3 (enc a_0), .sl 3 (enc b_0)] [(0, .box [.osl 1 3 (0) (mv_0.out.length), .v (.int .i64 mv_0.many)]), (1, .arr 3 (enc mv_0.out))] 2 (.v (.bool r.1)) [(0, .box [.osl 2 3 (0) (r.2.out.length), .v (.int .i64 r.2.many)]), (2, .arr 3 (enc r.2.out))] 3 := by
 refine dtI Tryz.func89 rfl ?_; rw [q50] at h; have F := trivial; refine sM ?_; refine sg fun _ Q2 => ?_; simp only [go_sem]; refine q7b Tryz.func109 rfl (by kernel_rfl) (by kernel_rfl) ?_; refine sM ?_; refine jg fun _ Q4 => ?_; refine sM ?_; refine w9 fun _ Q6 => ?_; refine q0x h [0, 1] (fun x => ([(5, .v (.int .i64 x.1))], [(0, .box [.osl 4 3 (0) (x.2.2.length), .v (.int .i64 x.2.1)]), (2, .box [.ptr 0 0]), (3, .box [.sl 3 (enc b_0)]), (4, .arr 3 (enc x.2.2))])) 5 ?_; rintro m_1 ⟨fromv_1, b_18, a_18⟩ h _ Q7; rw [q5q] at h; refine sg fun _ Q8 => ?_; refine sM ?_; refine sB h (fun _ h => ?_) fun _ h => ?_
 .
  refine y9 (q8 Q8 (w9 fun _ Q10 => ?_)); refine sM ?_; refine q52 (fun (tov_12 : Int) => q2q a_0 b_0 fromv_1 b_18 a_18 (q05 (q5q a_0 b_0) m_1) tov_12 = some r) [0, 1, 5] (fun tov_12 => ([(6, .v (.int .i64 tov_12))], [(0, .box [.osl 4 3 (0) (a_18.length), .v (.int .i64 b_18)]), (2, .box [.ptr 0 0]), (3, .box [.sl 3 (enc b_0)]), (4, .arr 3 (enc a_18))])) 5 ?_ ?_
  .
   intro _ Q40; refine w9 fun _ Q41 => ?_; refine q0x h [0, 1, 5] (fun tov_14 => ([(6, .v (.int .i64 tov_14))], [(0, .box [.osl 4 3 (0) (a_18.length), .v (.int .i64 b_18)]), (2, .box [.ptr 0 0]), (3, .box [.sl 3 (enc b_0)]), (4, .arr 3 (enc a_18))])) 5 ?_; rintro m_5 tov_14 h _ Q42; rw [qa1] at h; refine sg fun _ Q43 => ?_; refine sg fun _ Q44 => ?_; refine q0c ?_; refine jb1 ?_; simp only [go_sem]; rcases hb_154 : (decide (tov_14 < (a_0.length : Int))) with _ | _
   . replace h := q2l h hb_154; simp only [go_sem, hb_154]; exact au
   . replace h := q2k h hb_154; obtain ⟨xv_67, F, h⟩ := bI F h; obtain ⟨xv_68, F, h⟩ := bI F h; simp only [go_sem, hb_154, F]; refine ai ?_; refine ai ?_; exact au
  .
   rintro tov_12 h
   try dsimp only at h
   rw [q2q] at h; refine sg fun _ Q12 => ?_; refine sg fun _ Q13 => ?_; refine q0c ?_; refine jb1 ?_; obtain ⟨xv_51, F, h⟩ := bI F h; obtain ⟨F, h⟩ := bG F h; simp only [go_sem, F]; refine ai ?_; refine q7b Tryz.func110 rfl (by kernel_rfl) (by kernel_rfl) ?_; refine sM ?_; refine jg fun _ Q15 => ?_; refine sM ?_; refine w9 fun _ Q17 => ?_; refine q0x h [0, 2, 3, 11, 12] (fun x => ([(13, .v (.int .i64 x.1))], [(0, .box [.osl 5 3 (0) (x.2.2.length), .v (.int .i64 x.2.1)]), (2, .box [.ptr 0 0]), (3, .box [.sl 3 (enc b_0)]), (5, .arr 3 (enc x.2.2))])) 6 ?_; rintro m_3 ⟨t13_5, b_24, a_24⟩ h _ Q18; rw [q5p] at h; refine sM ?_; refine sg fun _ Q20 => ?_; refine sB h (fun _ h => ?_) fun _ h => ?_
   .
    refine y9 (q8 Q20 (jg fun _ Q21 => ?_)); refine w9 fun _ Q22 => ?_; refine sg fun _ Q23 => ?_; obtain ⟨xv_60, F, h⟩ := bI F h; simp only [go_sem, F]; refine ai ?_; refine q8 Q23 (sM ?_); refine w9 fun _ Q25 => ?_; refine q0x h [0, 2, 3, 11, 12, 13, 17, 18] (fun x => ([(8, .ptr 5 0), (19, .v (.int .i64 x.1))], [(0, .box [.osl 6 3 (0) (x.2.2.length), .v (.int .i64 x.2.1)]), (2, .box [.ptr 0 0]), (3, .box [.sl 3 (enc b_0)]), (5, .box (Row.row xv_60)), (6, .arr 3 (enc x.2.2))])) 7 ?_; rintro m_4 ⟨t19_17, b_26, a_26⟩ h _ Q26; rw [q5o] at h; refine sM ?_; refine sg fun _ Q28 => ?_; refine sB h (fun _ h => ?_) fun _ h => ?_
    .
     refine y9 (q8 Q28 (sg fun _ Q29 => ?_)); refine w9 fun _ Q30 => ?_; refine sg fun _ Q31 => ?_; obtain ⟨xv_63, F, h⟩ := bI F h; simp only [go_sem, F]; refine ai ?_; refine q8 Q31 (sg fun _ Q32 => ?_); refine sM ?_; refine sB h (fun _ h => ?_) fun _ h => ?_
     . exact au
     .
      refine y9 (q8 Q32 (sg fun _ Q34 => ?_)); refine q0c ?_; refine jb1 ?_; simp only [go_sem]; rcases hb_148 : ((decide (65536 < xv_60.N)) || (decide (65536 < xv_63.N))) with _ | _
      .
       replace h := q2l h hb_148; obtain ⟨v_52, ev_52, h⟩ := z8 h; simp only [go_sem, hb_148]; refine callq (fun _ => (zg1 xv_51.Rec.K xv_60.Rec.V xv_63.Rec.V v_52 ev_52)) (by rfl) (by rfl) ?_; obtain ⟨v_53, ev_53, h⟩ := z8 h; simp only [go_sem]; refine q20 [0, 6] (q2r (⟨a_26, b_26⟩ : GOps_maker) v_52 (i64.wrap (xv_60.N * xv_63.N)) v_53 ev_53) ?_; simp only [go_sem]; refine q8 Q34 (sB h (fun _ h => ?_) fun _ h => ?_)
       .
        refine sM ?_; refine q02 (q0m Q30 (q0s Q29 (q2b Q26 (q0m Q25 (q0m Q22 (q0s Q21 (q2b Q18 (q0m Q17 (q0s Q15 ?_))))))))); simp only [go_sem]; refine q1t [some 5, some 7, some 8] [(0, .box [.osl 7 3 (0) (v_53.2.out.length), .v (.int .i64 v_53.2.many)]), (2, .box [.ptr 0 0]), (3, .box [.sl 3 (enc b_0)]), (5, .box (Row.row xv_60)), (6, .box (Row.row xv_63)), (7, .arr 3 (enc v_53.2.out))] 8 (.v (.bool false)) ?_ ?_
        . exact leA
        refine q2g ?_; simp only [go_sem]; refine q8 Q13 (jg3 ?_); refine sM ?_; refine q02 (q0s Q12 (q0m Q10 (q2b Q7 (q0m Q6 (q0s Q4 ?_))))); simp only [go_sem]; refine q1t [some 5, some 6, some 7] [(0, .box [.osl 6 3 (0) (v_53.2.out.length), .v (.int .i64 v_53.2.many)]), (2, .box [.ptr 0 0]), (3, .box [.sl 3 (enc b_0)]), (4, .box (Row.row xv_60)), (5, .box (Row.row xv_63)), (6, .arr 3 (enc v_53.2.out))] 7 (.v (.bool false)) ?_ ?_
        . exact leA
        refine q2g ?_; simp only [go_sem]; exact au
       . exact au
      .
       replace h := q2k h hb_148; simp only [go_sem, hb_148]; refine q8 Q34 (jg3 ?_); refine sM ?_; refine q02 (q0m Q30 (q0s Q29 (q2b Q26 (q0m Q25 (q0m Q22 (q0s Q21 (q2b Q18 (q0m Q17 (q0s Q15 ?_))))))))); simp only [go_sem]; refine q1t [some 5, some 6, some 7] [(0, .box [.osl 6 3 (0) (a_26.length), .v (.int .i64 b_26)]), (2, .box [.ptr 0 0]), (3, .box [.sl 3 (enc b_0)]), (5, .box (Row.row xv_60)), (6, .arr 3 (enc a_26)), (7, .box (Row.row xv_63))] 8 (.v (.bool false)) ?_ ?_
       . exact leA
       refine q2g ?_; simp only [go_sem]; refine q8 Q13 (jg3 ?_); refine sM ?_; refine q02 (q0s Q12 (q0m Q10 (q2b Q7 (q0m Q6 (q0s Q4 ?_))))); simp only [go_sem]; refine q1t [some 5, some 6, some 7] [(0, .box [.osl 5 3 (0) (a_26.length), .v (.int .i64 b_26)]), (2, .box [.ptr 0 0]), (3, .box [.sl 3 (enc b_0)]), (4, .box (Row.row xv_60)), (5, .arr 3 (enc a_26)), (6, .box (Row.row xv_63))] 7 (.v (.bool false)) ?_ ?_
       . exact leA
       refine q2g ?_; simp only [go_sem]; exact au
    . exact au
   .
    refine q0q (q1p Q20 (q0r Q18 (q0i Q17 (q8 Q15 (sM ?_))))); refine q02 ?_; simp only [go_sem]; refine q1t [some 5] [(0, .box [.osl 5 3 (0) (a_24.length), .v (.int .i64 b_24)]), (2, .box [.ptr 0 0]), (3, .box [.sl 3 (enc b_0)]), (5, .arr 3 (enc a_24))] 6 (.v (.bool true)) ?_ ?_
    . exact leA
    refine q2g ?_; simp only [go_sem]; exact au
 .
  refine q0q (q1p Q8 (q0r Q7 (q0i Q6 (q8 Q4 (sM ?_))))); refine q02 ?_; simp only [go_sem]; refine q1t [some 4] [(0, .box [.osl 4 3 (0) (a_18.length), .v (.int .i64 b_18)]), (2, .box [.ptr 0 0]), (3, .box [.sl 3 (enc b_0)]), (4, .arr 3 (enc a_18))] 5 (.v (.bool true)) ?_ ?_
  . exact leA
  refine q2g ?_; simp only [go_sem]; exact au
end Go.Proofs.YteibkihbdgphnaaGreat
