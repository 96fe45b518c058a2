/-
  The law in plain words: what its plain function gives is true. No condition beyond those that each theorem names.
-/
import Derived.Test.YtgegekpefakacaaGreatWalkUS0
import Derived.Test.YtgegekpefakacaaGreatP18a
namespace Go.Proofs.YtgegekpefakacaaGreat
open Go Go.RowKit BG TS
namespace CE
def dirty (s : GSlot) : GSlot := ⟨s.Time, s.In, s.Sent, true, s.Fired⟩
def st (s : GSlot) : Bool := s.Fired && !s.Dirty
def j96 (kind : Int) (t : GTime) (s : GSlot) : Bool := (kind == 14) && decide (le t s.Time)
def mk (kind : Int) (t : GTime) (s : GSlot) : GSlot := if j96 kind t s = true then dirty s else s
def dflt (t : GTime) : GSlot := ⟨t, ⟨[], []⟩, [], false, false⟩
def upd (port : Int) (r : GRec) (n : Int) (s : GSlot) : GSlot := ⟨s.Time, ⟨if port = 0 then ad s.In.a0 r n else s.In.a0, if port = 0 then s.In.a1 else ad s.In.a1 r n⟩, s.Sent, s.Dirty, s.Fired⟩
def one (s : GSlot) : List GSlot := if emp s = true then [] else [s]
structure Sp (c : List GSlot) (t : GTime) (A : List GSlot) (own : GSlot) (B : List GSlot) : Prop where
 at_ : (c = A ++ B ∧ own = dflt t) ∨ (c = A ++ own :: B ∧ own.Time = t)
 lo : ∀ x ∈ A, key x.Time < key t
 hi : ∀ x ∈ B, key t < key x.Time
theorem Sp.time {c A B : List GSlot} {t : GTime} {own : GSlot} (h : Sp c t A own B) : own.Time = t := by
 rcases h.at_ with ⟨_, h⟩ | ⟨_, h⟩
 · rw [h]; rfl
 · exact h
theorem ze6 {b : List GSlot} (hl : b.length < 1000000000) : q49 b = some b := by
 refine jf8 ?_; unfold q49; exact Ok.guard (by simp; omega) (Ok.some (by simp))
theorem z8p {A B : List GSlot} {x : GSlot} (hl : (A ++ x :: B).length < 1000000000) (hx : lens 1000000 x) : q5t (A ++ x :: B) (A.length : Int) = some (A ++ (one x ++ B)) := by
 refine jf8 ?_; unfold q5t; have hlen : (A ++ x :: B).length = A.length + 1 + B.length := by simp; omega
 refine Ok.bind (jf6 (by simp) ?_); have hg : (A ++ x :: B)[A.length]'(by simp) = x := by simp
 rw [hg]; refine Ok.bind (jf9 (zm9 hx) (jf5 (fun he => ?_) (fun he => Ok.some ?_)))
 · unfold q8y z1k; rw [wrap_i64 _ (by omega)]; refine Ok.bind (Ok.guard ⟨by omega, by omega, by omega⟩ (Ok.some (Ok.some ?_))); rw [Int.toNat_natCast, show ((A.length : Int) + 1).toNat = A.length + 1 by omega, List.take_left, List.drop_append, one, if_pos he]; simp
 · rw [one, if_neg (by rw [he]; simp)]; rfl
structure Sz (N : Nat) (c : List GSlot) : Prop where
 len : c.length ≤ N
 each : ∀ s ∈ c, lens N s
end CE
end Go.Proofs.YtgegekpefakacaaGreat
