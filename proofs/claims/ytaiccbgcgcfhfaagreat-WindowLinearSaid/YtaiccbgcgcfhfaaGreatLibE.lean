/-
  What the library of Go does to rows, told by the kit's contracts. No condition beyond those that each theorem names.
-/
import Derived.Test.YtaiccbgcgcfhfaaGreatLibD
import Derived.Shelf.SlSortCmp.NoneTotal
import Derived.Shelf.Sort.Plain
import Derived.Shelf.Slices.CompactI
import Derived.Lib.RowBridge
import Derived.Shelf.Slices.In.SortNone
set_option linter.unusedSimpArgs false
set_option linter.unusedVariables false
set_option linter.unusedSectionVars false
open List renaming mem_singleton -> Xa, eq_nil_of_length_eq_zero -> Xc, mem_map_of_mem -> Xi, getElem_cons_zero -> Xo, getElem_cons_succ -> Xp, size_toArray -> Xw
open Array renaming getElem?_append_left -> Xb, getElem?_modify -> Xd, size_mapIdx -> Xk, getElem?_eq_getElem -> Xl, getElem?_mapIdx -> Xq, size_modify -> Xx
open Nat renaming le_refl -> Xe, le_add_right -> Xg, zero_lt_one -> Xh, zero_le -> Xj, mul_comm -> Xm, zero_add -> Xn, add_zero -> Xs, lt_of_lt_of_le -> Xt, add_mul -> Xy
open Option renaming some.injEq -> Xf, isSome_none -> Xu, map_some -> Xz
open Prod renaming mk.injEq -> Xr
open Bool renaming false_eq_true -> Xv
namespace Go.Proofs.YtaiccbgcgcfhfaaGreat
section
open Go Go.RowKit Go.Sort Go.Lib Go.Shelf
theorem zc4 {w : World} {β : Ghost} {ow : Nat -> Prop} {b : Nat} : ∀ (l : List Value) (o : Nat), q3f w β ow b (l.map AV.v) o ↔ ∀ i (h : i < l.length), w.cell? ⟨b, o + i, none⟩ = some l[i] /\ l[i].oneCell' = true
 | [], o => by simp [q3f]
 | a :: l, o => by
  simp only [List.map_cons, q3f, rep, zc4 l (o + 1)]
  constructor
  .
   rintro ⟨⟨u, h1, h2, rfl⟩, h3⟩ i hi
   cases i with
   | zero => exact ⟨h1, h2⟩
   | succ i =>
    have := h3 i (by simpa using hi); rw [show o + 1 + i = o + (i + 1) by omega] at this; exact this
  . intro h; refine ⟨⟨a, (h 0 (by simp)).1, (h 0 (by simp)).2, rfl⟩, fun i hi => ?_⟩; have := h (i + 1) (by simpa using hi); rw [show o + (i + 1) = o + 1 + i by omega] at this; exact this
theorem qb2 {α : Type} [Row α] {ev : α -> List Value} (hev : ∀ x, Row.row x = (ev x).map AV.v) {k : Nat} (hk : ∀ x, (ev x).length = k) {w : World} {β : Ghost} {ow : Nat -> Prop} {b : Nat} :
  ∀ (xs : List α) (o : Nat), q0k w β ow k b (enc xs) o ↔ ∀ j (hj : j < xs.length) i (hi : i < (ev xs[j]).length), w.cell? ⟨b, o + j * k + i, none⟩ = some (ev xs[j])[i] /\ (ev xs[j])[i].oneCell' = true
 | [], o => by simp [q0k, enc]
 | x :: xs, o => by
  have ih := qb2 hev hk (w := w) (β := β) (ow := ow) (b := b) xs (o + k); simp only [enc] at ih; simp only [enc, List.map_cons, q0k, hev, List.length_map, hk, true_and, ih, zc4]
  constructor
  .
   rintro ⟨h1, h2⟩ j hj i hi
   cases j with
   | zero =>
    simp only [Nat.zero_mul, Xs, Xo] at hi ⊢; exact h1 i hi
   | succ j =>
    simp only [Xp] at hi ⊢; have := h2 j (by simpa using hj) i hi; rw [show o + k + j * k + i = o + (j + 1) * k + i by rw [Xy]; omega] at this; exact this
  .
   intro h; refine ⟨fun i hi => ?_, fun j hj i hi => ?_⟩
   . have := h 0 (by simp) i hi; simp only [Nat.zero_mul, Xs, Xo] at this; exact this
   . have := h (j + 1) (by simpa using hj) i hi; simp only [Xp] at this; rw [show o + (j + 1) * k + i = o + k + j * k + i by rw [Xy]; omega] at this; exact this
def zl3 {α : Type} (cf : α -> α -> Option Int) (x y : α) : Bool := decide ((cf x y).getD 0 < 0)
noncomputable def z2l {α : Type} [Inhabited α] (cf : α -> α -> Option Int) (xs : List α) : Option (List α) :=
 open Classical in if xs.length < 4611686018427387904 /\ (∀ x y, (cf x y).isSome = true) /\ SWO (zl3 cf) then some (pdq (zl3 cf) xs.toArray 0 xs.length (Lib.bitLen xs.length) true true).toList else none
theorem j7y {S w' : World} {β β' : Ghost} {nx nx' : Nat} {hp : Hp} (hext : Ext S β nx [] w' β' nx' hp) : w' = grow (S.drewN (w'.drawn - S.drawn)) (w'.heap.extract S.heap.size w'.heap.size) := by
 have hd := hext.output.2 rfl; have ho := hext.output.1; have hos := hext.os; have htp := hext.tape; have hkeep : ∀ b, b < S.heap.size -> w'.heap[b]? = S.heap[b]? := fun b hb' => hext.keep b hb' (by rintro ⟨q, hq, _⟩; cases hq); have hsz' := hext.size; clear hext; have hheap : w'.heap = S.heap ++ w'.heap.extract S.heap.size w'.heap.size := by
  apply Array.ext_getElem?; intro b
  by_cases hb' : b < S.heap.size
  . rw [Xb hb', hkeep b hb']
  .
   rw [Array.getElem?_append_right (by omega), Array.getElem?_extract]
   by_cases hlt : b < w'.heap.size
   . rw [if_pos (by omega)]; congr 1; omega
   . rw [if_neg (by omega), Array.getElem?_eq_none (by omega)]
 cases w' with
 | mk heap tape drawn os output =>
  cases S with
  | mk heap1 tape1 drawn1 os1 output1 =>
   simp only at hd ho hheap hos htp; simp only [grow, World.drewN, World.mk.injEq]; exact ⟨hheap, htp, by omega, hos, ho⟩
theorem j0u {P : Program} {g : FuncId} {α : Type} [Inhabited α] [Row α] {ev : α -> List Value} (hev : ∀ x, Row.row x = (ev x).map AV.v) (k : Nat) {c : List AV} (hc : q08 c = true) (eg : d9 P g = true) (cf : α -> α -> Int)
  (hcf : ∀ x y, PureS P g ([.agg (Row.row x), .agg (Row.row y)] ++ c) 0 (.v (.int .i64 (cf x y)))) {w : World} {β : Ghost} {nx : Nat} {ow : Nat -> Prop} (how : ∀ b, ow b -> b < w.heap.size) (hgl : GLW P w) {blk size : Nat} (hgb : ∀ q ∈ glTab, ∀ g', P.globalNamed q.1 = some g' -> g' ≠ blk) (hb : ow blk) {cs : List Value} (hcs : x9 w β nx ow c cs) :
  CmpLays P g ⟨cs⟩ ev k cf blk 0 size w := by
 intro m os dk hs x y; have hsz : w.heap.size <= (sortWorldK ev k w blk 0 m dk os).heap.size := size_sortWorldK_c ev k w blk 0 m dk os; have hag : Agree w (sortWorldK ev k w blk 0 m dk os) ow ow := ⟨hsz, fun b hn hlt => ⟨by
  have hne : blk ≠ b := fun e => hn (e ▸ hb); simp only [sortWorldK, grow, putRowK, putRow, mapBlock]; rw [Xb (by simpa using hlt), Xd, if_neg hne]; rfl, hn⟩⟩
 have hgS : GLW P (sortWorldK ev k w blk 0 m dk os) := fun q hq g' hg' => by
  obtain ⟨cs', e', z', h1', h2'⟩ := hgl q hq g' hg'; refine ⟨cs', e', z', ?_, h2'⟩; rw [<- h1']; simp only [sortWorldK, grow, putRowK, putRow, mapBlock]; rw [Xb (by simpa using hgl.lt hq hg'), Xd, if_neg (Ne.symm (hgb q hq g' hg'))]; rfl
 revert hsz hag hgS
 generalize sortWorldK ev k w blk 0 m dk os = S
 intro hsz hag hgS; have h1 := hcf x y S noG ow ([.agg ⟨ev x⟩, .agg ⟨ev y⟩] ++ cs) (fun b hb' => Xt (how b hb') hsz) (by
  rw [qp9]; simp only [List.cons_append, List.nil_append, x9, rep, hev]; exact ⟨⟨_, rfl, z6x _⟩, ⟨_, rfl, z6x _⟩, q1a hag 0 0 (Xe _) (fun _ h => absurd h (Nat.not_lt_zero _)) _ _ (qp7 (β' := noG) (nx' := 0) _ _ hc hcs)⟩) HpRel.nil ⟨hgS, fun _ _ _ _ ⟨_, h, _⟩ => by cases h⟩
 have he : (#[Value.agg (ev x).toArray, .agg (ev y).toArray] ++ (⟨cs⟩ : Array Value)) = ⟨[.agg ⟨ev x⟩, .agg ⟨ev y⟩] ++ cs⟩ := by simp
 rw [he]; refine (h1.1 eg).mono ?_; rintro e w' ⟨v, r, hp, nx', β', rfl, ⟨rfl, rfl, rfl⟩, hr, _, hext⟩; simp only [rep] at hr; exact ⟨by rw [hr], _, _, j7y hext⟩
theorem j1s {α : Type} [Inhabited α] {cf : α -> α -> Option Int} {xs r : List α} (h : z2l cf xs = some r) : r.length = xs.length := by
 unfold z2l at h
 split at h
 .
  rename_i hc
  simp only [Xf] at h; have := (pdq_sorts (zl3 cf) hc.2.2 xs.toArray 0 xs.length (Lib.bitLen xs.length) true true (Xj _) (by simp) (Or.inl rfl)).1.1; rw [<- h]
  simpa using this
 . simp at h
theorem zi9 {P : Program} {ρ : Ren} (L : SlLaysF0.n6 P ρ) (ent : d9 P (ρ.f 6) = true) {α : Type} [Inhabited α] [Row α] {ev : α -> List Value} (hev : ∀ x, Row.row x = (ev x).map AV.v) {k : Nat} (hk : ∀ x, (ev x).length = k) (h1 : ∀ x, ∀ v ∈ ev x, v.oneCell' = true)
  (aE : ∀ w, (isAgg (ρ.t 24)).run P w = .ok true w) (zE : ∀ w, (Go.sizeOf (ρ.t 24)).run P w = .ok k w) {g : FuncId} {c : List AV} (hc : q08 c = true) (eg : d9 P g = true) {cf : α -> α -> Option Int}
  (hcf : ∀ x y r, cf x y = some r -> PureS P g ([.agg (Row.row x), .agg (Row.row y)] ++ c) 0 (.v (.int .i64 r))) {xs r : List α} (h : z2l cf xs = some r) :
  DetS P (ρ.f 6) [.osl 0 k 0 xs.length, .clo g c] [(0, .arr k (enc xs))] 1 (.tup []) [(0, .arr k (enc r))] 1 := by
 have hlen := j1s h; unfold z2l at h
 split at h
 rotate_left
 . simp at h
 rename_i hc'
 obtain ⟨hsz, htot, hO⟩ := hc'; simp only [Xf] at h; have hcf' : ∀ x y, PureS P g ([.agg (Row.row x), .agg (Row.row y)] ++ c) 0 (.v (.int .i64 ((cf x y).getD 0))) := fun x y => by
  obtain ⟨z, hz⟩ := Option.isSome_iff_exists.1 (htot x y); rw [hz]; exact hcf x y z hz
 intro w β A vs hA hargs hhp hgs; refine CallsE.of ent ?_; have hobj := hhp.obj _ (Xa.2 rfl)
 match vs, hargs with
 | [u1, u2], hargs =>
 simp only [x9, and_true] at hargs; obtain ⟨hr1, hr2⟩ := hargs; simp only [rep] at hr1 hr2; obtain ⟨cs, rfl, hcs⟩ := hr2; have hbl := hhp.bofLt; rcases hr1.2 with ⟨hn, -, hl0, rfl⟩ | ⟨b, C, cap, a, hb, rfl, hcap, hCC, ha⟩
 .
  have hx : xs = [] := Xc hl0; have hr : r = [] := Xc (hlen.trans hl0); subst hx hr; refine (AnyF.slices_SortFunc_none L none 0 (.func (.func g) #[] ⟨cs⟩) w).mono ?_; rintro e w' ⟨rfl, rfl⟩; refine ⟨_, _, _, _, β, rfl, ⟨rfl, rfl, rfl⟩, ?_, hhp, ?_⟩
  . simp only [rep]; exact ⟨[], rfl, by simp only [x9]⟩
  . exact { nx := Xe _, gh := fun _ _ => rfl, gi := fun _ _ _ => rfl, ids := fun p hp => .inl (Xi hp), blk := fun p hp b hb => .inl ⟨p, hp, hb⟩, os := rfl, tape := rfl, output := ⟨rfl, fun _ => Xe _⟩, size := Xe _, keep := fun _ _ _ => rfl }
 .
  have ha' : a = ⟨b, 0, none⟩ := by
   rcases ha with rfl | ⟨_, h0⟩
   . simp
   . exact absurd rfl h0
  subst ha'; have hbw := hbl _ (Xa.2 rfl) b (.inl ⟨C, hb⟩); rcases hobj with ⟨h0, _⟩ | ⟨b', C', cur, e, hb', hheap, hcs1, hcl, hcm, hrows⟩
  . simp only at h0; rw [hb] at h0; cases h0
  simp only at hb'; rw [hb] at hb'; simp only [Xf, Xr] at hb'; obtain ⟨rfl, rfl⟩ := hb'; have hrows' := (qb2 hev hk xs 0).1 hrows; have hH : HoldsK ev k w b 0 xs.toArray := by
   intro j hj; rw [size_flatK, Xw] at hj; have k0 : 0 < k := Nat.pos_of_ne_zero (by rintro rfl; simp at hj); have hjk : j / k < xs.length := Nat.div_lt_of_lt_mul (by rwa [Xm] at hj); have hjm : j % k < k := Nat.mod_lt _ k0; have := (hrows' (j / k) hjk (j % k) (by rw [hk]; exact hjm)).1; have hj' : 0 + j / k * k + j % k = 0 + j := by rw [Xn, Xn, Xm]; exact Nat.div_add_mod j k
   rw [hj'] at this; refine ⟨?_, ?_⟩
   .
    rw [this, get_flatK _ _ _ _ (by simpa using hj)]; have e1 : (xs.toArray)[j / k]! = xs[j / k] := by rw [getElem!_pos _ _ (by simpa using hjk)]; simp
    rw [e1, getElem!_pos _ _ (by rw [hk]; exact hjm)]; rfl
   . unfold World.frozen?; rw [hheap]; simp
  have hgo := AnyQ.slices_SortFunc_eq (α := α) L k aE zE ev hk h1 (fun x y => (cf x y).getD 0) hO g ⟨cs⟩ b 0 cap xs.toArray w (fun args w => z3x eg)
   (j0u hev k hc eg _ hcf' (nx := 1) (ow := own β [(0, .arr k (enc xs))] A) (fun b' hb' => by
    rcases hb' with hb' | ⟨p, hp, hC⟩
    . exact hA _ hb'
    . exact hbl p hp b' hC) hgs.gl (fun q hq g' hg' e => hgs.off q hq g' hg' (e ▸ q59 (Xa.2 rfl) hb)) (.inr (q59 (Xa.2 rfl) hb)) hcs) hH hbw (by simpa using hsz)
  simp only [Xw] at hgo; rw [show pdq (ltOf fun x y => (cf x y).getD 0) xs.toArray 0 xs.length (Lib.bitLen xs.length) true true = r.toArray by rw [<- h]; rfl] at hgo; refine hgo.mono ?_; rintro e' w' ⟨rfl, n, os, rfl⟩; have hH' := holdsK_sortWorldK_c ev k w b 0 xs.toArray r.toArray n os hH hbw (by simpa using hlen); have hs' := size_sortWorldK_c ev k w b 0 n r.toArray os; have hag : ∀ b', b' ≠ b -> b' < w.heap.size -> (sortWorldK ev k w b 0 n r.toArray os).heap[b']? = w.heap[b']? := fun b' hne hlt => by
   simp only [sortWorldK, grow, putRowK, putRow, mapBlock]; rw [Xb (by simpa using hlt), Xd, if_neg (Ne.symm hne)]; rfl
  have hbk : (sortWorldK ev k w b 0 n r.toArray os).heap[b]? = some (.cells (putCells id 0 (flatK ev k r.toArray) cur) e (0, 0)) := by
   simp only [sortWorldK, grow, putRowK, putRow, mapBlock]; rw [Xb (by simpa using hbw), Xd, if_pos rfl]
   show (w.heap[b]?).map _ = _
   rw [hheap]; rfl
  have hown : own β [(0, AObj.arr k (enc r))] A = own β [(0, .arr k (enc xs))] A := by
   funext b'
   simp only [own, blks, Xa, exists_eq_left]
  have hos : (sortWorldK ev k w b 0 n r.toArray os).os = w.os := rfl; have htp : (sortWorldK ev k w b 0 n r.toArray os).tape = w.tape := rfl; have hop : (sortWorldK ev k w b 0 n r.toArray os).output = w.output := rfl; have hdr : w.drawn <= (sortWorldK ev k w b 0 n r.toArray os).drawn := Xg _ _
  revert hH' hs' hag hbk hos htp hop hdr
  generalize sortWorldK ev k w b 0 n r.toArray os = S
  intro hH' hs' hag hbk hos htp hop hdr; refine ⟨_, _, _, _, β, rfl, ⟨rfl, rfl, rfl⟩, ?_, ⟨?_, ?_, ?_, ?_, ?_, ?_, ?_⟩, ?_⟩
  . simp only [rep]; exact ⟨[], rfl, by simp only [x9]⟩
  .
   intro p hp; rw [Xa] at hp; subst hp; refine .inr ⟨b, C, _, e, hb, hbk, ?_, ?_, hcm, ?_⟩
   . simp only [putCells, Xk]; exact hcs1
   . rw [q0r, hlen, <- q0r]; exact hcl
   .
    refine (qb2 hev hk r 0).2 fun j hj i hi => ?_; have hi' : i < k := by rwa [hk] at hi
    have hlt : j * k + i < r.length * k := Xt (by omega : j * k + i < j * k + k) (by
     have := Nat.mul_le_mul_right k (show j + 1 <= r.length from hj); rwa [Xy, Nat.one_mul] at this)
    have := (hH' (j * k + i) (by simpa using hlt)).1; rw [get_flatK _ _ _ _ (by simpa using hlt)] at this; have hd : (j * k + i) / k = j := by rw [Xm, Nat.mul_add_div (by omega), Nat.div_eq_of_lt hi', Xs]
    have hm : (j * k + i) % k = i := by rw [Xm, Nat.mul_add_mod, Nat.mod_eq_of_lt hi']
    rw [hd, hm] at this; have e1 : (r.toArray)[j]! = r[j] := by rw [getElem!_pos _ _ (by simpa using hj)]; simp
    rw [e1, getElem!_pos (ev r[j]) i hi] at this; refine ⟨?_, h1 _ _ (List.getElem_mem _)⟩; rw [show 0 + j * k + i = 0 + (j * k + i) by omega]; exact this
  . intro p hp; rw [Xa] at hp; subst hp; exact Xh
  . simp
  . intro p hp q hq _ _ _ _ _; rw [Xa] at hp hq; rw [hp, hq]
  . intro p hp b' C' hC; rw [Xa] at hp; subst hp; exact hhp.av _ (Xa.2 rfl) b' C' hC
  . intro p hp _; rw [Xa] at hp; subst hp; exact (show β.inn 0 = [] from hhp.i0 (0, .arr _ _) (Xa.2 rfl) rfl)
  .
   intro p hp b' hb'; rw [Xa] at hp; subst hp; rw [show β.inn 0 = [] from hhp.i0 (0, .arr _ _) (Xa.2 rfl) rfl] at hb'
   cases hb'
  .
   refine { nx := Xe _, gh := fun _ _ => rfl, gi := fun _ _ _ => rfl, ids := fun p hp => .inl ?_, blk := fun p hp b' hC => .inl ?_, os := hos, tape := htp, output := ⟨hop, fun _ => hdr⟩, size := hs', keep := fun b' hlt hnb => hag b' (fun e => hnb ?_) hlt }
   . rw [Xa] at hp; subst hp; simp
   . rw [Xa] at hp; subst hp; exact ⟨_, Xa.2 rfl, hC⟩
   . subst e; exact q59 (Xa.2 rfl) hb
end
section
open Go Go.RowKit Go.Sort
theorem zy4 {α : Type} [Inhabited α] {cf : α -> α -> Option Int} {lt : α -> α -> Bool} (hlt : ∀ x y, ∃ n, cf x y = some n /\ (n < 0 ↔ lt x y = true)) {xs : List α} (h1 : xs.length < 4611686018427387904) (h3 : SWO lt) :
  ∃ r, z2l cf xs = some r /\ r.Perm xs /\ r.Pairwise (fun a b => lt b a = false) := by
 have he : zl3 cf = lt := by
  funext x y
  obtain ⟨n, hn, hi⟩ := hlt x y; unfold zl3; rw [hn, Option.getD_some]
  cases hl : lt x y
  . rw [decide_eq_false_iff_not]; intro h; rw [hi.1 h] at hl; cases hl
  . rw [decide_eq_true_eq]; exact hi.2 hl
 have hs := pdq_sorts lt h3 xs.toArray 0 xs.length (Lib.bitLen xs.length) true true (Xj _) (by simp) (Or.inl rfl); refine ⟨(pdq lt xs.toArray 0 xs.length (Lib.bitLen xs.length) true true).toList, ?_, ?_, ?_⟩
 . unfold z2l; rw [if_pos ⟨h1, fun x y => by obtain ⟨n, hn, _⟩ := hlt x y; rw [hn]; rfl, by rw [he]; exact h3⟩, he]
 .
  have hp := hs.1.2.2; have hz : (pdq lt xs.toArray 0 xs.length (Lib.bitLen xs.length) true true).size = xs.length := by simpa using hs.1.1
  have e1 : (pdq lt xs.toArray 0 xs.length (Lib.bitLen xs.length) true true).extract 0 xs.length = pdq lt xs.toArray 0 xs.length (Lib.bitLen xs.length) true true := by
   apply Array.ext
   . simp [hz]
   . intro i h1 h2; simp
  have e2 : xs.toArray.extract 0 xs.length = xs.toArray := by
   apply Array.ext
   . simp
   . intro i h1 h2; simp
  rw [e1, e2] at hp
  simpa using hp
 .
  have hz : (pdq lt xs.toArray 0 xs.length (Lib.bitLen xs.length) true true).size = xs.length := by simpa using hs.1.1
  refine List.pairwise_iff_getElem.2 fun i j hi hj hij => ?_; have := hs.2 i j (Xj _) hij (by simpa [hz] using hj); rw [getElem!_pos _ j (by simpa using hj), getElem!_pos _ i (by simpa using hi)] at this
  simpa using this
theorem j1r {α : Type} {lt : α -> α -> Bool} (hd : ∀ x y, lt x y = false -> lt y x = false -> x = y) {a b : List α} (h : a.Perm b) (ha : a.Pairwise (fun x y => lt y x = false)) (hb : b.Pairwise (fun x y => lt y x = false)) : a = b :=
 List.Perm.eq_of_pairwise (le := fun x y => lt y x = false) (fun x y _ _ h1 h2 => hd x y h2 h1) ha hb h
end
section
open Go Go.RowKit Go.Sort Go.Lib Go.Shelf
def zy3 (xs : List Int) : Option (List Int) := q02 (xs.length < 4611686018427387904) (some (xs.mergeSort fun x y => decide (x <= y)))
theorem zi8 {P : Program} {ρ : Ren} (L : Lays.n189 P ρ) (ent : d9 P (ρ.f 189) = true) (hnil : ∀ w, Calls P (ρ.f 189) #[.slice none 0 0] w fun e w' => e = .returned (.tuple #[]) /\ w' = w) {xs r : List Int} (h : zy3 xs = some r) :
  DetS P (ρ.f 189) [.osl 0 1 0 xs.length] [(0, .arr 1 (enc xs))] 1 (.tup []) [(0, .arr 1 (enc r))] 1 := by
 obtain ⟨hsz, h⟩ := q0j h; simp only [Xf] at h; have hlen : r.length = xs.length := by rw [<- h, List.length_mergeSort]
 let ev : Int -> List Value := fun x => [.int .i64 x]
 have hev : ∀ x : Int, Row.row x = (ev x).map AV.v := fun _ => rfl; have hk : ∀ x : Int, (ev x).length = 1 := fun _ => rfl; intro w β A vs hA hargs hhp hgs; refine CallsE.of ent ?_; have hobj := hhp.obj _ (Xa.2 rfl)
 match vs, hargs with
 | [u1], hargs =>
 simp only [x9, and_true] at hargs; have hr1 := hargs; simp only [rep] at hr1; have hbl := hhp.bofLt; rcases hr1.2 with ⟨hn, -, hl0, rfl⟩ | ⟨b, C, cap, a, hb, rfl, hcap, hCC, ha⟩
 .
  have hx : xs = [] := Xc hl0; have hr : r = [] := Xc (hlen.trans hl0); subst hx hr; refine (hnil w).mono ?_; rintro e w' ⟨rfl, rfl⟩; refine ⟨_, _, _, _, β, rfl, ⟨rfl, rfl, rfl⟩, ?_, hhp, ?_⟩
  . simp only [rep]; exact ⟨[], rfl, by simp only [x9]⟩
  . exact { nx := Xe _, gh := fun _ _ => rfl, gi := fun _ _ _ => rfl, ids := fun p hp => .inl (Xi hp), blk := fun p hp b hb => .inl ⟨p, hp, hb⟩, os := rfl, tape := rfl, output := ⟨rfl, fun _ => Xe _⟩, size := Xe _, keep := fun _ _ _ => rfl }
 .
  have ha' : a = ⟨b, 0, none⟩ := by
   rcases ha with rfl | ⟨_, h0⟩
   . simp
   . exact absurd rfl h0
  subst ha'; have hbw := hbl _ (Xa.2 rfl) b (.inl ⟨C, hb⟩); rcases hobj with ⟨h0, _⟩ | ⟨b', C', cur, e, hb', hheap, hcs1, hcl, hcm, hrows⟩
  . simp only at h0; rw [hb] at h0; cases h0
  simp only at hb'; rw [hb] at hb'; simp only [Xf, Xr] at hb'; obtain ⟨rfl, rfl⟩ := hb'; have hrows' := (qb2 hev hk xs 0).1 hrows; have hH : Holds (Value.int .i64) w b 0 xs.toArray := by
   intro j hj; have hj' : j < xs.length := by simpa using hj
   have := (hrows' j hj' 0 (by simp [ev])).1; refine ⟨?_, ?_⟩
   . rw [show 0 + j * 1 + 0 = 0 + j by omega] at this; rw [this, getElem!_pos xs.toArray j hj]; simp [ev]
   . unfold World.frozen?; rw [hheap]; simp
  have hgo := Any.slices_Sort_int L b 0 cap xs w hH hbw hsz; rw [h] at hgo; refine hgo.mono ?_; rintro e' w' ⟨rfl, n, os, rfl⟩; have hbk : (grow (putRow (Value.int .i64) (Sort.ahead w n) b 0 r.toArray) os).heap[b]? = some (.cells (putCells (Value.int .i64) 0 r.toArray cur) e (0, 0)) := by
   simp only [grow, putRow, mapBlock]; rw [Xb (by simpa using hbw), Xd, if_pos rfl]
   show (w.heap[b]?).map _ = _
   rw [hheap]; rfl
  have hag : ∀ b', b' ≠ b -> b' < w.heap.size -> (grow (putRow (Value.int .i64) (Sort.ahead w n) b 0 r.toArray) os).heap[b']? = w.heap[b']? := fun b' hne hlt => by
   simp only [grow, putRow, mapBlock]; rw [Xb (by simpa using hlt), Xd, if_neg (Ne.symm hne)]; rfl
  have hs' : w.heap.size <= (grow (putRow (Value.int .i64) (Sort.ahead w n) b 0 r.toArray) os).heap.size := by
   simp only [grow, putRow, mapBlock, Array.size_append, Xx]; exact Xg _ _
  have hos : (grow (putRow (Value.int .i64) (Sort.ahead w n) b 0 r.toArray) os).os = w.os := rfl; have htp : (grow (putRow (Value.int .i64) (Sort.ahead w n) b 0 r.toArray) os).tape = w.tape := rfl; have hop : (grow (putRow (Value.int .i64) (Sort.ahead w n) b 0 r.toArray) os).output = w.output := rfl; have hdr : w.drawn <= (grow (putRow (Value.int .i64) (Sort.ahead w n) b 0 r.toArray) os).drawn := Xg _ _
  revert hbk hag hs' hos htp hop hdr
  generalize grow (putRow (Value.int .i64) (Sort.ahead w n) b 0 r.toArray) os = S
  intro hbk hag hs' hos htp hop hdr; refine ⟨_, _, _, _, β, rfl, ⟨rfl, rfl, rfl⟩, ?_, ⟨?_, ?_, ?_, ?_, ?_, ?_, ?_⟩, ?_⟩
  . simp only [rep]; exact ⟨[], rfl, by simp only [x9]⟩
  .
   intro p hp; rw [Xa] at hp; subst hp; refine .inr ⟨b, C, _, e, hb, hbk, ?_, ?_, hcm, ?_⟩
   . simp only [putCells, Xk]; exact hcs1
   . rw [q0r, hlen, <- q0r]; exact hcl
   .
    refine (qb2 hev hk r 0).2 fun j hj i hi => ?_; have hi0 : i = 0 := by simp [ev] at hi; exact hi
    subst hi0; rw [q0r] at hcl; refine ⟨?_, rfl⟩; unfold World.cell?; simp only [hbk, Xu, Xv, if_false]; rw [show 0 + j * 1 + 0 = j by omega]; have hjc : j < cur.size := by omega
    simp only [putCells, Xq, Xl hjc, Xz, Nat.sub_zero, Xn]; rw [if_pos ⟨Xj _, by simpa using hj⟩, getElem!_pos r.toArray j (by simpa using hj)]; simp [ev]
  . intro p hp; rw [Xa] at hp; subst hp; exact Xh
  . simp
  . intro p hp q hq _ _ _ _ _; rw [Xa] at hp hq; rw [hp, hq]
  . intro p hp b' C' hC; rw [Xa] at hp; subst hp; exact hhp.av _ (Xa.2 rfl) b' C' hC
  . intro p hp _; rw [Xa] at hp; subst hp; exact (show β.inn 0 = [] from hhp.i0 (0, .arr _ _) (Xa.2 rfl) rfl)
  .
   intro p hp b' hb'; rw [Xa] at hp; subst hp; rw [show β.inn 0 = [] from hhp.i0 (0, .arr _ _) (Xa.2 rfl) rfl] at hb'
   cases hb'
  .
   refine { nx := Xe _, gh := fun _ _ => rfl, gi := fun _ _ _ => rfl, ids := fun p hp => .inl ?_, blk := fun p hp b' hC => .inl ?_, os := hos, tape := htp, output := ⟨hop, fun _ => hdr⟩, size := hs', keep := fun b' hlt hnb => hag b' (fun e => hnb ?_) hlt }
   . rw [Xa] at hp; subst hp; simp
   . rw [Xa] at hp; subst hp; exact ⟨_, Xa.2 rfl, hC⟩
   . subst e; exact q59 (Xa.2 rfl) hb
end
section
open Go Go.RowKit Go.Sort Go.Lib Go.Shelf
def z7h (xs : List Int) : Option (List Int) := q02 (xs.length < 4611686018427387904) (some (Lib.compact xs))
theorem z94 {P : Program} {ρ : Ren} (L : Lays2.n20 P ρ) (ent : d9 P (ρ.f 20) = true) {xs r : List Int} (h : z7h xs = some r) :
  DetS P (ρ.f 20) [.osl 0 1 0 xs.length] [(0, .arr 1 (enc xs))] 1 (.osl 0 1 0 r.length) [(0, .arr 1 (enc r))] 1 := by
 obtain ⟨hsz, h⟩ := q0j h; simp only [Xf] at h; have hlen : r.length <= xs.length := by rw [<- h]; exact Lib.compact_length_le xs
 let ev : Int -> List Value := fun x => [.int .i64 x]
 have hev : ∀ x : Int, Row.row x = (ev x).map AV.v := fun _ => rfl; have hk : ∀ x : Int, (ev x).length = 1 := fun _ => rfl; intro w β A vs hA hargs hhp hgs; refine CallsE.of ent ?_; have hobj := hhp.obj _ (Xa.2 rfl)
 match vs, hargs with
 | [u1], hargs =>
 simp only [x9, and_true] at hargs; have hr1 := hargs; simp only [rep] at hr1; have hbl := hhp.bofLt; rcases hr1.2 with ⟨hn, -, hl0, rfl⟩ | ⟨b, C, cap, a, hb, rfl, hcap, hCC, ha⟩
 .
  have hx : xs = [] := Xc hl0; have hr : r = [] := Xc (by omega); subst hx hr; refine (Any.slices_Compact_int_empty L none 0 w).mono ?_; rintro e w' ⟨rfl, rfl⟩; refine ⟨_, _, _, _, β, rfl, ⟨rfl, rfl, rfl⟩, ?_, hhp, ?_⟩
  . simp [rep, hn]
  . exact { nx := Xe _, gh := fun _ _ => rfl, gi := fun _ _ _ => rfl, ids := fun p hp => .inl (Xi hp), blk := fun p hp b hb => .inl ⟨p, hp, hb⟩, os := rfl, tape := rfl, output := ⟨rfl, fun _ => Xe _⟩, size := Xe _, keep := fun _ _ _ => rfl }
 .
  have ha' : a = ⟨b, 0, none⟩ := by
   rcases ha with rfl | ⟨_, h0⟩
   . simp
   . exact absurd rfl h0
  subst ha'; have hbw := hbl _ (Xa.2 rfl) b (.inl ⟨C, hb⟩); rcases hobj with ⟨h0, _⟩ | ⟨b', C', cur, e, hb', hheap, hcs1, hcl, hcm, hrows⟩
  . simp only at h0; rw [hb] at h0; cases h0
  simp only at hb'; rw [hb] at hb'; simp only [Xf, Xr] at hb'; obtain ⟨rfl, rfl⟩ := hb'; have hrows' := (qb2 hev hk xs 0).1 hrows; have hH : Holds (Value.int .i64) w b 0 xs.toArray := by
   intro j hj; have hj' : j < xs.length := by simpa using hj
   have := (hrows' j hj' 0 (by simp [ev])).1; refine ⟨?_, ?_⟩
   . rw [show 0 + j * 1 + 0 = 0 + j by omega] at this; rw [this, getElem!_pos xs.toArray j hj]; simp [ev]
   . unfold World.frozen?; rw [hheap]; simp
  have hgo := Any.slices_Compact_int L b 0 cap xs w hH (by omega) hcap; rw [h] at hgo; refine hgo.mono ?_; rintro e' w' ⟨rfl, n, rfl⟩
  generalize hrr : r ++ List.replicate (xs.length - r.length) (0 : Int) = rr
  have hrl : rr.length = xs.length := by rw [<- hrr]; simp; omega
  have hbk : (putRow (Value.int .i64) (Sort.ahead w n) b 0 rr.toArray).heap[b]? = some (.cells (putCells (Value.int .i64) 0 rr.toArray cur) e (0, 0)) := by
   simp only [putRow, mapBlock]; rw [Xd, if_pos rfl]
   show (w.heap[b]?).map _ = _
   rw [hheap]; rfl
  have hag : ∀ b', b' ≠ b -> b' < w.heap.size -> (putRow (Value.int .i64) (Sort.ahead w n) b 0 rr.toArray).heap[b']? = w.heap[b']? := fun b' hne hlt => by
   simp only [putRow, mapBlock]; rw [Xd, if_neg (Ne.symm hne)]; rfl
  have hs' : w.heap.size <= (putRow (Value.int .i64) (Sort.ahead w n) b 0 rr.toArray).heap.size := by
   simp only [putRow, mapBlock, Xx]; exact Xe _
  have hos : (putRow (Value.int .i64) (Sort.ahead w n) b 0 rr.toArray).os = w.os := rfl; have htp : (putRow (Value.int .i64) (Sort.ahead w n) b 0 rr.toArray).tape = w.tape := rfl; have hop : (putRow (Value.int .i64) (Sort.ahead w n) b 0 rr.toArray).output = w.output := rfl; have hdr : w.drawn <= (putRow (Value.int .i64) (Sort.ahead w n) b 0 rr.toArray).drawn := Xg _ _
  revert hbk hag hs' hos htp hop hdr
  generalize putRow (Value.int .i64) (Sort.ahead w n) b 0 rr.toArray = S
  intro hbk hag hs' hos htp hop hdr; refine ⟨_, _, _, _, β, rfl, ⟨rfl, rfl, rfl⟩, ?_, ⟨?_, ?_, ?_, ?_, ?_, ?_, ?_⟩, ?_⟩
  . simp only [rep]; exact ⟨Xh, .inr ⟨b, C, cap, _, hb, rfl, by omega, hCC, .inl (by simp)⟩⟩
  .
   intro p hp; rw [Xa] at hp; subst hp; refine .inr ⟨b, C, _, e, hb, hbk, ?_, ?_, hcm, ?_⟩
   . simp only [putCells, Xk]; exact hcs1
   . rw [q0r] at hcl ⊢; omega
   .
    refine (qb2 hev hk r 0).2 fun j hj i hi => ?_; have hi0 : i = 0 := by simp [ev] at hi; exact hi
    subst hi0; rw [q0r] at hcl; refine ⟨?_, rfl⟩; unfold World.cell?; simp only [hbk, Xu, Xv, if_false]; rw [show 0 + j * 1 + 0 = j by omega]; have hjc : j < cur.size := by omega
    simp only [putCells, Xq, Xl hjc, Xz, Nat.sub_zero, Xn]; have hjr : j < rr.length := by omega
    rw [if_pos ⟨Xj _, by simpa using hjr⟩, getElem!_pos rr.toArray j (by simpa using hjr)]; have : rr[j] = r[j] := by subst hrr; rw [List.getElem_append_left hj]
    simp [ev, this]
  . intro p hp; rw [Xa] at hp; subst hp; exact Xh
  . simp
  . intro p hp q hq _ _ _ _ _; rw [Xa] at hp hq; rw [hp, hq]
  . intro p hp b' C' hC; rw [Xa] at hp; subst hp; exact hhp.av _ (Xa.2 rfl) b' C' hC
  . intro p hp _; rw [Xa] at hp; subst hp; exact (show β.inn 0 = [] from hhp.i0 (0, .arr _ _) (Xa.2 rfl) rfl)
  .
   intro p hp b' hb'; rw [Xa] at hp; subst hp; rw [show β.inn 0 = [] from hhp.i0 (0, .arr _ _) (Xa.2 rfl) rfl] at hb'
   cases hb'
  .
   refine { nx := Xe _, gh := fun _ _ => rfl, gi := fun _ _ _ => rfl, ids := fun p hp => .inl ?_, blk := fun p hp b' hC => .inl ?_, os := hos, tape := htp, output := ⟨hop, fun _ => hdr⟩, size := hs', keep := fun b' hlt hnb => hag b' (fun e => hnb ?_) hlt }
   . rw [Xa] at hp; subst hp; simp
   . rw [Xa] at hp; subst hp; exact ⟨_, Xa.2 rfl, hC⟩
   . subst e; exact q59 (Xa.2 rfl) hb
end
end Go.Proofs.YtaiccbgcgcfhfaaGreat
