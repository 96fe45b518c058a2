/-
  The law in plain words: what its plain function gives is true. No condition beyond those that each theorem names.
-/
import Derived.Test.YtgegekpefakacaaGreatWalkUS1
import Derived.Test.YtgegekpefakacaaGreatWalkUS2
import Derived.Test.YtgegekpefakacaaGreatP16y
namespace Go.Proofs.YtgegekpefakacaaGreat
open Go Go.RowKit TS VA
namespace UN
open CE (Cl Sz lens q5c z3l)
open Classical
theorem j4c (a b : GPoint) : ((a.Node == b.Node) && ((a.Time.D == b.Time.D) && ((a.Time.C.a0 == b.Time.C.a0) && ((a.Time.C.a1 == b.Time.C.a1) && ((a.Time.C.a2 == b.Time.C.a2) && (a.Time.C.a3 == b.Time.C.a3)))))) = decide (a = b) := by
 rw [teq, Bool.eq_iff_iff]; simp only [Bool.and_eq_true, beq_iff_eq, decide_eq_true_eq]
 constructor
 · rintro ⟨h1, h2⟩; obtain ⟨n, t⟩ := a; obtain ⟨m, q⟩ := b; simp only at h1 h2; subst h1 h2; rfl
 · rintro rfl; exact ⟨rfl, rfl⟩
theorem zr9 {l : List GPoint} {p : GPoint} (hl : l.length < 1000000) : q5f l p = some (decide (p ∈ l)) := by
 unfold q5f q8x; refine jf8 (jf4 (P := fun i => 0 ≤ i ↔ p ∈ l) ?_ fun i hi => Ok.some (by rw [decide_eq_decide]; exact hi)); refine jg0 (l := l) (by omega) (fun i => p ∉ l.take i) 0 (fun rec i hi _ hI hr => ?_) (fun rec hI => ?_) (by simp) (Nat.zero_le _)
 ·
  unfold q7r; rw [if_pos (by simpa using hi), iw hi (by omega)]; refine Ok.bind (jf6 hi ?_); rw [j4c]; refine jf5 (fun h => Ok.some ?_) (fun h => hr ?_)
  · simp only [decide_eq_true_eq] at h; exact ⟨fun _ => by rw [h]; exact List.getElem_mem hi, fun _ => by omega⟩
  · simp only [decide_eq_false_iff_not] at h; rw [List.take_succ_eq_append_getElem hi, List.mem_append, List.mem_singleton]; exact fun hh => hh.elim hI h
 · unfold q7r; rw [if_neg (by simp)]; rw [List.take_length] at hI; exact Ok.some ⟨fun h => by omega, fun h => absurd h hI⟩
theorem zv1 {l a : List GTime} (h : CH.Ch l a) : CH.Rt a := ⟨h.inc, fun x => by
 constructor
 · intro hx; obtain ⟨h1, h2, h3⟩ := (h.mem x).1 hx; exact ⟨hx, h2, fun s hs hle => h3 s ((h.mem s).1 hs).1 hle⟩
 · exact fun hx => hx.1⟩
theorem j8x {c : List GTime} {t : GTime} (hc : c.length ≤ 40) : Ok (qk1 c t) fun a => CH.Rt a ∧ a.length ≤ 41 := by
 unfold qk1; rw [TS.Right_eq]; refine Ok.bind (Ok.some (jf5 (fun _ => ?_) (fun _ => ?_)))
 · exact jf4 (CH.Of_ok (by omega)) fun a ha => Ok.some ⟨zv1 ha.1, by have := ha.2; omega⟩
 · unfold q80; refine Ok.bind (Ok.guard (by simp; omega) (Ok.some (Ok.guard (by simp; omega) ?_))); refine jf4 (CH.Of_ok (by simp; omega)) fun a ha => Ok.some ⟨zv1 ha.1, by have := ha.2; simp at this; omega⟩
structure Made (g : GGraph) (u : GUnit) (p : GPoint) (workers : Int) (n : Nat) (v : GUnit) (out : List GLetter) : Prop where
 id : v.ID = u.ID
 colour : v.Colour = u.Colour
 got : v.Got = u.Got
 late : v.Late = u.Late
 cells : ∃ A s B now, u.Cells.getD n [] = A ++ s :: B ∧ s.Time = p.Time ∧ CE.Fine now ∧ v.Cells = u.Cells.set n (A ++ (CE.one (CE.madeS s now) ++ B))
 red : v.Red = u.Red ∨ ∃ a, CH.Rt a ∧ a.length ≤ 41 ∧ v.Red = u.Red.set n a
 len : out.length ≤ 40000000
 lets : ∀ x ∈ out, ∃ i, ∃ h : i < g.Edges.length, g.Edges[i].From.toNat = n ∧ p.Time.D = (HP.lev g n : Int) ∧ TS.ok p.Time ∧ TS.ok (HP.tm (HP.th (lst p.Time) (HP.stepE g g.Edges[i]).2 (HP.stepE g g.Edges[i]).1)) ∧ Let u workers (i : Int) (HP.tm (HP.th (lst p.Time) (HP.stepE g g.Edges[i]).2 (HP.stepE g g.Edges[i]).1)) x
 sent : (v.Sent.a0 + v.Sent.a1 - u.Sent.a0 - u.Sent.a1 - (out.length : Int)) % 18446744073709551616 = 0
end UN
end Go.Proofs.YtgegekpefakacaaGreat
