/-
  The law in plain words: what its plain function gives is true. No condition beyond those that each theorem names.
-/
import Derived.Test.YtaiccbgcgcfhfaaGreatWalkWL0
import Derived.Test.YtaiccbgcgcfhfaaGreatP12t
set_option linter.unusedSimpArgs false
set_option linter.unusedVariables false
set_option linter.unusedSectionVars false
namespace Go.Proofs.YtaiccbgcgcfhfaaGreat
open Go Go.RowKit TS VA BG
namespace MN
open Classical
section
variable {g : GGraph} (hG : VA.Good g) {most : Int} {V : Int -> Prop} {d : Int} (hd : 0 <= d) {pre : List GOut}
include hG hd
omit hd
theorem j0m {s : MS} (e : Int) (h : W g s) : W g (qw8 g most s e) /\ Keep g e s (qw8 g most s e) :=
 zc2 (g := g) (most := most) (T := fun x => x = e) (P := fun x => W g x /\ Keep g e s x) (fun x n t hn ht hx => by
  obtain ⟨k1, k2⟩ := q7u hG most hn ht hx.1; exact ⟨k1, hx.2.trans k2⟩) 8 0 g.Nodes.length 0 (ep e) s (Nat.le_refl _) (fun _ => rfl) ⟨h, Keep.refl _ _ _⟩
structure KeepL (g : GGraph) (es : List Int) (s s' : MS) : Prop where
 ins : ∀ p : GMean_point, p.time.C.a0 ∉ es -> s'.ins p = s.ins p
 work : s.work <= s'.work
 outs : ∃ more, s'.outs = s.outs ++ more /\ ∀ o ∈ more, o.Epoch ∈ es
 dead : s.e ≠ 0 -> s'.e ≠ 0
 past : (∀ n, n < g.Nodes.length -> (nd g n).Kind ≠ 14) -> s'.past = s.past /\ s'.bags = s.bags
theorem z4r : ∀ (es : List Int) (s : MS), W g s -> W g (es.foldl (qw8 g most) s) /\ KeepL g es s (es.foldl (qw8 g most) s)
 | [], s, h => ⟨h, fun _ _ => rfl, Int.le_refl _, ⟨[], by simp, by simp⟩, fun h => h, fun _ => ⟨rfl, rfl⟩⟩
 | e :: es, s, h => by
  obtain ⟨k1, k2⟩ := j0m hG (most := most) e h; obtain ⟨k3, k4⟩ := z4r es _ k1; rw [List.foldl_cons]; obtain ⟨m1, a1, a2⟩ := k2.outs; obtain ⟨m2, b1, b2⟩ := k4.outs; refine ⟨k3, fun p hp => ?_, Int.le_trans k2.work k4.work, ⟨m1 ++ m2, by rw [b1, a1, List.append_assoc], fun o ho => ?_⟩, fun hx => k4.dead (k2.dead hx), fun hn => ⟨(k4.past hn).1.trans (k2.past hn).1, (k4.past hn).2.trans (k2.past hn).2⟩⟩
  . simp only [List.mem_cons, not_or] at hp; exact (k4.ins p hp.2).trans (k2.ins p hp.1)
  .
   rcases List.mem_append.1 ho with h | h
   . rw [a2 o h]; simp
   . exact List.mem_cons_of_mem _ (b2 o h)
include hd
end
theorem j8e {g : GGraph} {s : MS} {q : GMean_point} {port : Int} {b : List GItem} (h : W g s) (hq : PtM g q) : W g (q3r s q port b) := fun p hp => by
 rw [q9a] at hp
 split at hp
 . rename_i hc; rw [hc.2]; exact hq
 . exact h p hp
theorem z0i {g : GGraph} (hG : VA.Good g) (feeds : List GFeed) (hF : ∀ f ∈ feeds, qw9 g f) : W g (q3m feeds) := by
 unfold q3m; have : ∀ (l : List GFeed) (s : MS), (∀ f ∈ l, qw9 g f) -> W g s -> W g (l.foldl q5o s) := by
  intro l
  induction l with
  | nil => intro s _ h; exact h
  | cons f l ih =>
   intro s hf h; rw [List.foldl_cons]; refine ih _ (fun x hx => hf x (by simp [hx])) ?_; obtain ⟨f0, f1, f2, f3, f4⟩ := hf f (by simp); refine j8e h ?_; have := zm6 hG (n := f.Node.toNat) (by omega) f2 ⟨f3, f4⟩; rw [Int.toNat_of_nonneg f0] at this; exact this
 exact this feeds s0 hF (fun p hp => absurd rfl hp)
end MN
end Go.Proofs.YtaiccbgcgcfhfaaGreat
