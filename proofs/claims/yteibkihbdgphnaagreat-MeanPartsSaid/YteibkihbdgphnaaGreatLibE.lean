/-
  What the library of Go does to rows, told by the kit's contracts. No condition beyond those that each theorem names.
-/
import Derived.Test.YteibkihbdgphnaaGreatLibD
import Derived.Shelf.SlSortCmp.NoneTotal
import Derived.Shelf.Sort.Plain
import Derived.Shelf.Slices.CompactI
import Derived.Lib.RowBridge
import Derived.Shelf.Slices.In.SortNone
set_option linter.unusedSimpArgs false
set_option linter.unusedVariables false
set_option linter.unusedSectionVars false
open List renaming mem_singleton -> Xa, eq_nil_of_length_eq_zero -> Xb, getElem_cons_zero -> Xj, getElem_cons_succ -> Xk, mem_map_of_mem -> Xm
open Nat renaming le_refl -> Xc, le_add_right -> Xh, zero_lt_one -> Xi
open Array renaming getElem?_modify -> Xd, getElem?_append_left -> Xf, getElem?_eq_getElem -> Xg, getElem?_mapIdx -> Xl, size_modify -> Xp, size_mapIdx -> Xq
open Option renaming some.injEq -> Xe, isSome_none -> Xn, map_some -> Xr
open Bool renaming false_eq_true -> Xo
namespace Go.Proofs.YteibkihbdgphnaaGreat
section
open Go Go.RowKit Go.Sort Go.Lib Go.Shelf
theorem zc7 {w : World} {β : Ghost} {ow : Nat -> Prop} {b : Nat} : ∀ (l : List Value) (o : Nat), q3s w β ow b (l.map AV.v) o ↔ ∀ i (h : i < l.length), w.cell? ⟨b, o + i, none⟩ = some l[i] /\ l[i].oneCell' = true
 | [], o => by simp [q3s]
 | a :: l, o => by
  simp only [List.map_cons, q3s, rep, zc7 l (o + 1)]
  constructor
  .
   rintro ⟨⟨u, h1, h2, rfl⟩, h3⟩ i hi
   cases i with
   | zero => exact ⟨h1, h2⟩
   | succ i =>
    have := h3 i (by simpa using hi); rw [show o + 1 + i = o + (i + 1) by omega] at this; exact this
  . intro h; refine ⟨⟨a, (h 0 (by simp)).1, (h 0 (by simp)).2, rfl⟩, fun i hi => ?_⟩; have := h (i + 1) (by simpa using hi); rw [show o + (i + 1) = o + 1 + i by omega] at this; exact this
theorem qq5 {α : Type} [Row α] {ev : α -> List Value} (hev : ∀ x, Row.row x = (ev x).map AV.v) {k : Nat} (hk : ∀ x, (ev x).length = k) {w : World} {β : Ghost} {ow : Nat -> Prop} {b : Nat} :
  ∀ (xs : List α) (o : Nat), q0j w β ow k b (enc xs) o ↔ ∀ j (hj : j < xs.length) i (hi : i < (ev xs[j]).length), w.cell? ⟨b, o + j * k + i, none⟩ = some (ev xs[j])[i] /\ (ev xs[j])[i].oneCell' = true
 | [], o => by simp [q0j, enc]
 | x :: xs, o => by
  have ih := qq5 hev hk (w := w) (β := β) (ow := ow) (b := b) xs (o + k); simp only [enc] at ih; simp only [enc, List.map_cons, q0j, hev, List.length_map, hk, true_and, ih, zc7]
  constructor
  .
   rintro ⟨h1, h2⟩ j hj i hi
   cases j with
   | zero =>
    simp only [Nat.zero_mul, Nat.add_zero, Xj] at hi ⊢; exact h1 i hi
   | succ j =>
    simp only [Xk] at hi ⊢; have := h2 j (by simpa using hj) i hi; rw [show o + k + j * k + i = o + (j + 1) * k + i by rw [Nat.add_mul]; omega] at this; exact this
  .
   intro h; refine ⟨fun i hi => ?_, fun j hj i hi => ?_⟩
   . have := h 0 (by simp) i hi; simp only [Nat.zero_mul, Nat.add_zero, Xj] at this; exact this
   . have := h (j + 1) (by simpa using hj) i hi; simp only [Xk] at this; rw [show o + (j + 1) * k + i = o + k + j * k + i by rw [Nat.add_mul]; omega] at this; exact this
end
section
open Go Go.RowKit Go.Sort
end
section
open Go Go.RowKit Go.Sort Go.Lib Go.Shelf
def zw6 (xs : List Int) : Option (List Int) := q03 (xs.length < 4611686018427387904) (some (xs.mergeSort fun x y => decide (x <= y)))
theorem zi9 {P : Program} {ρ : Ren} (L : Lays.n189 P ρ) (ent : q00 P (ρ.f 189) = true) (hnil : ∀ w, Calls P (ρ.f 189) #[.slice none 0 0] w fun e w' => e = .returned (.tuple #[]) /\ w' = w) {xs r : List Int} (h : zw6 xs = some r) :
  DetS P (ρ.f 189) [.osl 0 1 0 xs.length] [(0, .arr 1 (enc xs))] 1 (.tup []) [(0, .arr 1 (enc r))] 1 := by
 obtain ⟨hsz, h⟩ := q0d h; simp only [Xe] at h; have hlen : r.length = xs.length := by rw [<- h, List.length_mergeSort]
 let ev : Int -> List Value := fun x => [.int .i64 x]
 have hev : ∀ x : Int, Row.row x = (ev x).map AV.v := fun _ => rfl; have hk : ∀ x : Int, (ev x).length = 1 := fun _ => rfl; intro w β A vs hA hargs hhp hgs; refine CallsE.of ent ?_; have hobj := hhp.obj _ (Xa.2 rfl)
 match vs, hargs with
 | [u1], hargs =>
 simp only [x9, and_true] at hargs; have hr1 := hargs; simp only [rep] at hr1; have hbl := hhp.bofLt; rcases hr1.2 with ⟨hn, -, hl0, rfl⟩ | ⟨b, C, cap, a, hb, rfl, hcap, hCC, ha⟩
 .
  have hx : xs = [] := Xb hl0; have hr : r = [] := Xb (hlen.trans hl0); subst hx hr; refine (hnil w).mono ?_; rintro e w' ⟨rfl, rfl⟩; refine ⟨_, _, _, _, β, rfl, ⟨rfl, rfl, rfl⟩, ?_, hhp, ?_⟩
  . simp only [rep]; exact ⟨[], rfl, by simp only [x9]⟩
  . exact { nx := Xc _, gh := fun _ _ => rfl, gi := fun _ _ _ => rfl, ids := fun p hp => .inl (Xm hp), blk := fun p hp b hb => .inl ⟨p, hp, hb⟩, os := rfl, tape := rfl, output := ⟨rfl, fun _ => Xc _⟩, size := Xc _, keep := fun _ _ _ => rfl }
 .
  have ha' : a = ⟨b, 0, none⟩ := by
   rcases ha with rfl | ⟨_, h0⟩
   . simp
   . exact absurd rfl h0
  subst ha'; have hbw := hbl _ (Xa.2 rfl) b (.inl ⟨C, hb⟩); rcases hobj with ⟨h0, _⟩ | ⟨b', C', cur, e, hb', hheap, hcs1, hcl, hcm, hrows⟩
  . simp only at h0; rw [hb] at h0; cases h0
  simp only at hb'; rw [hb] at hb'; simp only [Xe, Prod.mk.injEq] at hb'; obtain ⟨rfl, rfl⟩ := hb'; have hrows' := (qq5 hev hk xs 0).1 hrows; have hH : Holds (Value.int .i64) w b 0 xs.toArray := by
   intro j hj; have hj' : j < xs.length := by simpa using hj
   have := (hrows' j hj' 0 (by simp [ev])).1; refine ⟨?_, ?_⟩
   . rw [show 0 + j * 1 + 0 = 0 + j by omega] at this; rw [this, getElem!_pos xs.toArray j hj]; simp [ev]
   . unfold World.frozen?; rw [hheap]; simp
  have hgo := Any.slices_Sort_int L b 0 cap xs w hH hbw hsz; rw [h] at hgo; refine hgo.mono ?_; rintro e' w' ⟨rfl, n, os, rfl⟩; have hbk : (grow (putRow (Value.int .i64) (Sort.ahead w n) b 0 r.toArray) os).heap[b]? = some (.cells (putCells (Value.int .i64) 0 r.toArray cur) e (0, 0)) := by
   simp only [grow, putRow, mapBlock]; rw [Xf (by simpa using hbw), Xd, if_pos rfl]
   show (w.heap[b]?).map _ = _
   rw [hheap]; rfl
  have hag : ∀ b', b' ≠ b -> b' < w.heap.size -> (grow (putRow (Value.int .i64) (Sort.ahead w n) b 0 r.toArray) os).heap[b']? = w.heap[b']? := fun b' hne hlt => by
   simp only [grow, putRow, mapBlock]; rw [Xf (by simpa using hlt), Xd, if_neg (Ne.symm hne)]; rfl
  have hs' : w.heap.size <= (grow (putRow (Value.int .i64) (Sort.ahead w n) b 0 r.toArray) os).heap.size := by
   simp only [grow, putRow, mapBlock, Array.size_append, Xp]; exact Xh _ _
  have hos : (grow (putRow (Value.int .i64) (Sort.ahead w n) b 0 r.toArray) os).os = w.os := rfl; have htp : (grow (putRow (Value.int .i64) (Sort.ahead w n) b 0 r.toArray) os).tape = w.tape := rfl; have hop : (grow (putRow (Value.int .i64) (Sort.ahead w n) b 0 r.toArray) os).output = w.output := rfl; have hdr : w.drawn <= (grow (putRow (Value.int .i64) (Sort.ahead w n) b 0 r.toArray) os).drawn := Xh _ _
  revert hbk hag hs' hos htp hop hdr
  generalize grow (putRow (Value.int .i64) (Sort.ahead w n) b 0 r.toArray) os = S
  intro hbk hag hs' hos htp hop hdr; refine ⟨_, _, _, _, β, rfl, ⟨rfl, rfl, rfl⟩, ?_, ⟨?_, ?_, ?_, ?_, ?_, ?_, ?_⟩, ?_⟩
  . simp only [rep]; exact ⟨[], rfl, by simp only [x9]⟩
  .
   intro p hp; rw [Xa] at hp; subst hp; refine .inr ⟨b, C, _, e, hb, hbk, ?_, ?_, hcm, ?_⟩
   . simp only [putCells, Xq]; exact hcs1
   . rw [q11, hlen, <- q11]; exact hcl
   .
    refine (qq5 hev hk r 0).2 fun j hj i hi => ?_; have hi0 : i = 0 := by simp [ev] at hi; exact hi
    subst hi0; rw [q11] at hcl; refine ⟨?_, rfl⟩; unfold World.cell?; simp only [hbk, Xn, Xo, if_false]; rw [show 0 + j * 1 + 0 = j by omega]; have hjc : j < cur.size := by omega
    simp only [putCells, Xl, Xg hjc, Xr, Nat.sub_zero, Nat.zero_add]; rw [if_pos ⟨Nat.zero_le _, by simpa using hj⟩, getElem!_pos r.toArray j (by simpa using hj)]; simp [ev]
  . intro p hp; rw [Xa] at hp; subst hp; exact Xi
  . simp
  . intro p hp q hq _ _ _ _ _; rw [Xa] at hp hq; rw [hp, hq]
  . intro p hp b' C' hC; rw [Xa] at hp; subst hp; exact hhp.av _ (Xa.2 rfl) b' C' hC
  . intro p hp _; rw [Xa] at hp; subst hp; exact (show β.inn 0 = [] from hhp.i0 (0, .arr _ _) (Xa.2 rfl) rfl)
  .
   intro p hp b' hb'; rw [Xa] at hp; subst hp; rw [show β.inn 0 = [] from hhp.i0 (0, .arr _ _) (Xa.2 rfl) rfl] at hb'
   cases hb'
  .
   refine { nx := Xc _, gh := fun _ _ => rfl, gi := fun _ _ _ => rfl, ids := fun p hp => .inl ?_, blk := fun p hp b' hC => .inl ?_, os := hos, tape := htp, output := ⟨hop, fun _ => hdr⟩, size := hs', keep := fun b' hlt hnb => hag b' (fun e => hnb ?_) hlt }
   . rw [Xa] at hp; subst hp; simp
   . rw [Xa] at hp; subst hp; exact ⟨_, Xa.2 rfl, hC⟩
   . subst e; exact q6s (Xa.2 rfl) hb
end
section
open Go Go.RowKit Go.Sort Go.Lib Go.Shelf
def z7l (xs : List Int) : Option (List Int) := q03 (xs.length < 4611686018427387904) (some (Lib.compact xs))
theorem z99 {P : Program} {ρ : Ren} (L : Lays2.n20 P ρ) (ent : q00 P (ρ.f 20) = true) {xs r : List Int} (h : z7l xs = some r) :
  DetS P (ρ.f 20) [.osl 0 1 0 xs.length] [(0, .arr 1 (enc xs))] 1 (.osl 0 1 0 r.length) [(0, .arr 1 (enc r))] 1 := by
 obtain ⟨hsz, h⟩ := q0d h; simp only [Xe] at h; have hlen : r.length <= xs.length := by rw [<- h]; exact Lib.compact_length_le xs
 let ev : Int -> List Value := fun x => [.int .i64 x]
 have hev : ∀ x : Int, Row.row x = (ev x).map AV.v := fun _ => rfl; have hk : ∀ x : Int, (ev x).length = 1 := fun _ => rfl; intro w β A vs hA hargs hhp hgs; refine CallsE.of ent ?_; have hobj := hhp.obj _ (Xa.2 rfl)
 match vs, hargs with
 | [u1], hargs =>
 simp only [x9, and_true] at hargs; have hr1 := hargs; simp only [rep] at hr1; have hbl := hhp.bofLt; rcases hr1.2 with ⟨hn, -, hl0, rfl⟩ | ⟨b, C, cap, a, hb, rfl, hcap, hCC, ha⟩
 .
  have hx : xs = [] := Xb hl0; have hr : r = [] := Xb (by omega); subst hx hr; refine (Any.slices_Compact_int_empty L none 0 w).mono ?_; rintro e w' ⟨rfl, rfl⟩; refine ⟨_, _, _, _, β, rfl, ⟨rfl, rfl, rfl⟩, ?_, hhp, ?_⟩
  . simp [rep, hn]
  . exact { nx := Xc _, gh := fun _ _ => rfl, gi := fun _ _ _ => rfl, ids := fun p hp => .inl (Xm hp), blk := fun p hp b hb => .inl ⟨p, hp, hb⟩, os := rfl, tape := rfl, output := ⟨rfl, fun _ => Xc _⟩, size := Xc _, keep := fun _ _ _ => rfl }
 .
  have ha' : a = ⟨b, 0, none⟩ := by
   rcases ha with rfl | ⟨_, h0⟩
   . simp
   . exact absurd rfl h0
  subst ha'; have hbw := hbl _ (Xa.2 rfl) b (.inl ⟨C, hb⟩); rcases hobj with ⟨h0, _⟩ | ⟨b', C', cur, e, hb', hheap, hcs1, hcl, hcm, hrows⟩
  . simp only at h0; rw [hb] at h0; cases h0
  simp only at hb'; rw [hb] at hb'; simp only [Xe, Prod.mk.injEq] at hb'; obtain ⟨rfl, rfl⟩ := hb'; have hrows' := (qq5 hev hk xs 0).1 hrows; have hH : Holds (Value.int .i64) w b 0 xs.toArray := by
   intro j hj; have hj' : j < xs.length := by simpa using hj
   have := (hrows' j hj' 0 (by simp [ev])).1; refine ⟨?_, ?_⟩
   . rw [show 0 + j * 1 + 0 = 0 + j by omega] at this; rw [this, getElem!_pos xs.toArray j hj]; simp [ev]
   . unfold World.frozen?; rw [hheap]; simp
  have hgo := Any.slices_Compact_int L b 0 cap xs w hH (by omega) hcap; rw [h] at hgo; refine hgo.mono ?_; rintro e' w' ⟨rfl, n, rfl⟩
  generalize hrr : r ++ List.replicate (xs.length - r.length) (0 : Int) = rr
  have hrl : rr.length = xs.length := by rw [<- hrr]; simp; omega
  have hbk : (putRow (Value.int .i64) (Sort.ahead w n) b 0 rr.toArray).heap[b]? = some (.cells (putCells (Value.int .i64) 0 rr.toArray cur) e (0, 0)) := by
   simp only [putRow, mapBlock]; rw [Xd, if_pos rfl]
   show (w.heap[b]?).map _ = _
   rw [hheap]; rfl
  have hag : ∀ b', b' ≠ b -> b' < w.heap.size -> (putRow (Value.int .i64) (Sort.ahead w n) b 0 rr.toArray).heap[b']? = w.heap[b']? := fun b' hne hlt => by
   simp only [putRow, mapBlock]; rw [Xd, if_neg (Ne.symm hne)]; rfl
  have hs' : w.heap.size <= (putRow (Value.int .i64) (Sort.ahead w n) b 0 rr.toArray).heap.size := by
   simp only [putRow, mapBlock, Xp]; exact Xc _
  have hos : (putRow (Value.int .i64) (Sort.ahead w n) b 0 rr.toArray).os = w.os := rfl; have htp : (putRow (Value.int .i64) (Sort.ahead w n) b 0 rr.toArray).tape = w.tape := rfl; have hop : (putRow (Value.int .i64) (Sort.ahead w n) b 0 rr.toArray).output = w.output := rfl; have hdr : w.drawn <= (putRow (Value.int .i64) (Sort.ahead w n) b 0 rr.toArray).drawn := Xh _ _
  revert hbk hag hs' hos htp hop hdr
  generalize putRow (Value.int .i64) (Sort.ahead w n) b 0 rr.toArray = S
  intro hbk hag hs' hos htp hop hdr; refine ⟨_, _, _, _, β, rfl, ⟨rfl, rfl, rfl⟩, ?_, ⟨?_, ?_, ?_, ?_, ?_, ?_, ?_⟩, ?_⟩
  . simp only [rep]; exact ⟨Xi, .inr ⟨b, C, cap, _, hb, rfl, by omega, hCC, .inl (by simp)⟩⟩
  .
   intro p hp; rw [Xa] at hp; subst hp; refine .inr ⟨b, C, _, e, hb, hbk, ?_, ?_, hcm, ?_⟩
   . simp only [putCells, Xq]; exact hcs1
   . rw [q11] at hcl ⊢; omega
   .
    refine (qq5 hev hk r 0).2 fun j hj i hi => ?_; have hi0 : i = 0 := by simp [ev] at hi; exact hi
    subst hi0; rw [q11] at hcl; refine ⟨?_, rfl⟩; unfold World.cell?; simp only [hbk, Xn, Xo, if_false]; rw [show 0 + j * 1 + 0 = j by omega]; have hjc : j < cur.size := by omega
    simp only [putCells, Xl, Xg hjc, Xr, Nat.sub_zero, Nat.zero_add]; have hjr : j < rr.length := by omega
    rw [if_pos ⟨Nat.zero_le _, by simpa using hjr⟩, getElem!_pos rr.toArray j (by simpa using hjr)]; have : rr[j] = r[j] := by subst hrr; rw [List.getElem_append_left hj]
    simp [ev, this]
  . intro p hp; rw [Xa] at hp; subst hp; exact Xi
  . simp
  . intro p hp q hq _ _ _ _ _; rw [Xa] at hp hq; rw [hp, hq]
  . intro p hp b' C' hC; rw [Xa] at hp; subst hp; exact hhp.av _ (Xa.2 rfl) b' C' hC
  . intro p hp _; rw [Xa] at hp; subst hp; exact (show β.inn 0 = [] from hhp.i0 (0, .arr _ _) (Xa.2 rfl) rfl)
  .
   intro p hp b' hb'; rw [Xa] at hp; subst hp; rw [show β.inn 0 = [] from hhp.i0 (0, .arr _ _) (Xa.2 rfl) rfl] at hb'
   cases hb'
  .
   refine { nx := Xc _, gh := fun _ _ => rfl, gi := fun _ _ _ => rfl, ids := fun p hp => .inl ?_, blk := fun p hp b' hC => .inl ?_, os := hos, tape := htp, output := ⟨hop, fun _ => hdr⟩, size := hs', keep := fun b' hlt hnb => hag b' (fun e => hnb ?_) hlt }
   . rw [Xa] at hp; subst hp; simp
   . rw [Xa] at hp; subst hp; exact ⟨_, Xa.2 rfl, hC⟩
   . subst e; exact q6s (Xa.2 rfl) hb
end
end Go.Proofs.YteibkihbdgphnaaGreat
