/-
  The law in plain words: what its plain function gives is true. No condition beyond those that each theorem names.
-/
import Derived.Test.YtgegekpefakacaaGreatWalkUS0
import Derived.Test.YtgegekpefakacaaGreatP18d
namespace Go.Proofs.YtgegekpefakacaaGreat
open Go Go.RowKit BG TS
namespace CE
def look (c : List GSlot) (t : GTime) : GSlot := (c.find? (fun s => decide (s.Time = t))).getD (dflt t)
theorem Cl.uniq {c : List GSlot} (h : Cl c) {x y : GSlot} (hx : x ∈ c) (hy : y ∈ c) (e : x.Time = y.Time) : x = y := by
 obtain ⟨i, hi, rfl⟩ := List.mem_iff_getElem.1 hx; obtain ⟨j, hj, rfl⟩ := List.mem_iff_getElem.1 hy; rcases Nat.lt_trichotomy i j with h1 | h1 | h1
 · have : klt c[i] c[j] := (List.pairwise_iff_getElem.1 h.inc) i j hi hj h1; unfold klt at this; rw [e] at this; omega
 · subst h1; rfl
 · have : klt c[j] c[i] := (List.pairwise_iff_getElem.1 h.inc) j i hj hi h1; unfold klt at this; rw [e] at this; omega
def nz (s : GSlot) : GSlot := if emp s = true then dflt s.Time else s
def mkE (kind : Int) (t : GTime) (s : GSlot) : GSlot := if emp s = true then s else mk kind t s
def step (kind port : Int) (t : GTime) (r : GRec) (n : Int) (w : GTime) (s : GSlot) : GSlot := if w = t then nz (dirty (upd port r n s)) else mkE kind t s
def er (s : GSlot) : GSlot := ⟨s.Time, s.In, s.Sent, s.Dirty, false⟩
end CE
end Go.Proofs.YtgegekpefakacaaGreat
