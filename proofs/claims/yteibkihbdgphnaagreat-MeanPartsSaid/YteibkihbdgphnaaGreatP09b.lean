/-
  The law in plain words: what its plain function gives is true. No condition beyond those that each theorem names.
-/
import Derived.Test.YteibkihbdgphnaaGreatWalkMP0
import Derived.Test.YteibkihbdgphnaaGreatP09a
set_option linter.unusedSimpArgs false
set_option linter.unusedVariables false
set_option linter.unusedSectionVars false
open Int renaming toNat_natCast -> Xa
namespace Go.Proofs.YteibkihbdgphnaaGreat
open Go Go.RowKit
namespace VA
theorem eachG {α σ τ R : Type} {l : List α} (hl : l.length < 9223372036854775807) {body : (τ -> Option R) -> τ -> Option R} (st : Int -> σ -> τ) (ix : τ -> Int) (hix : ∀ i s, ix (st i s) = i) (I : Nat -> σ -> Prop) {Q : R -> Prop} {s0 : σ} (i0 : Nat)
  (h : ∀ (rec : τ -> Option R) (i : Nat) (_ : i < l.length) s, i0 <= i -> I i s -> (∀ s', I (i + 1) s' -> Ok (rec (st ((i + 1 : Nat) : Int) s')) Q) -> Ok (body rec (st (i : Int) s)) Q)
  (hK : ∀ (rec : τ -> Option R) s, I l.length s -> Ok (body rec (st (l.length : Int) s)) Q) (h0 : I i0 s0) (hi0 : i0 <= l.length) : Ok (q05 body rounds (st (i0 : Int) s0)) Q := by
 refine jh7 (fun t => ∃ (i : Nat) (s : σ), t = st (i : Int) s /\ i0 <= i /\ i <= l.length /\ I i s) (fun t => l.length - (ix t).toNat) ?_ ⟨i0, s0, rfl, Nat.le_refl _, hi0, h0⟩ (by simp only [rounds]; omega); rintro rec _ ⟨i, s, rfl, h1, h2, h3⟩ hr; rcases Nat.lt_or_ge i l.length with hlt | hge
 . exact h rec i hlt s h1 h3 fun s' hs' => hr _ ⟨i + 1, s', rfl, by omega, by omega, hs'⟩ (by simp only [hix, Xa]; omega)
 .
  obtain rfl : i = l.length := by omega
  exact hK rec s h3
def z5n (L : Nat) (x : GIns) : Bool := !(decide (x.Op < 1) || decide (16 < x.Op)) && (if x.Op = 14 \/ x.Op = 15 then !(decide (x.N < 0) || decide ((L : Int) < x.N)) else (x.Op == 1 || x.N == 0))
def pOk (p : List GIns) : Bool := decide (p.length <= 64) && p.all (z5n p.length)
theorem j9o {α : Type} {l : List α} {f : α -> Bool} {i : Nat} (h : i < l.length) (hf : f l[i] = false) : l.all f = false := List.all_eq_false.2 ⟨_, List.getElem_mem h, by simp [hf]⟩
theorem iw {i : Nat} {N : Nat} (h : i < N) (hN : N < 9223372036854775807) : IntKind.i64.wrap ((i : Int) + 1) = ((i + 1 : Nat) : Int) := by rw [wrap_i64 _ (by omega)]; omega
theorem j1o (p : List GIns) : q77 p = some (pOk p) := by
 unfold q77; refine Ok.eq (jh5 (fun h => Ok.some ?_) (fun h => ?_))
 . simp only [decide_eq_true_eq] at h; unfold pOk; rw [decide_eq_false (by omega)]; rfl
 .
  simp only [decide_eq_false_iff_not] at h; have hp : pOk p = p.all (z5n p.length) := by unfold pOk; rw [decide_eq_true (by omega)]; simp
  refine ji0 (l := p) (by omega) (fun i => ∀ x ∈ p.take i, z5n p.length x = true) 0 (fun rec i hi _ hI hr => ?_) (fun rec hI => ?_) (by simp) (Nat.zero_le _)
  .
   unfold q7f; rw [if_pos (by simp only [decide_eq_true_eq]; omega)]; refine Ok.bind (jh6 hi ?_); have hno : z5n p.length p[i] = false -> pOk p = false := fun hf => by rw [hp]; exact j9o hi hf
   have hyes : z5n p.length p[i] = true -> Ok (rec (IntKind.i64.wrap ((i : Int) + 1))) (fun r => r = pOk p) := fun hf => by
    rw [iw hi (by omega)]; exact hr ((qn4 hi).2 ⟨hI, hf⟩)
   have hd : z5n p.length p[i] = (!(decide (p[i].Op < 1) || decide (16 < p[i].Op)) && (if p[i].Op = 14 \/ p[i].Op = 15 then !(decide (p[i].N < 0) || decide ((p.length : Int) < p[i].N)) else (p[i].Op == 1 || p[i].N == 0))) := rfl; refine jh5 (fun h1 => Ok.some ?_) (fun h1 => ?_)
   . rw [hno (by rw [hd, h1]; rfl)]
   .
    simp only [qi5, q9, Option.bind_some]; refine jh5 (fun h2 => ?_) (fun h2 => ?_)
    .
     simp only [Bool.or_eq_true, beq_iff_eq] at h2; refine jh5 (fun h3 => Ok.some ?_) (fun h3 => hyes ?_)
     . rw [hno (by rw [hd, if_pos h2, h3]; simp)]
     . rw [hd, if_pos h2, h3, h1]; rfl
    .
     have h2' : ¬ (p[i].Op = 14 \/ p[i].Op = 15) := by
      intro hh; rcases hh with hh | hh <;> rw [hh] at h2 <;> simp at h2
     refine jh5 (fun h3 => Ok.some ?_) (fun h3 => hyes ?_)
     . simp only [Bool.and_eq_true, Bool.not_eq_true', beq_eq_false_iff_ne, ne_eq] at h3; rw [hno (by rw [hd, if_neg h2', beq_eq_false_iff_ne.2 h3.1, beq_eq_false_iff_ne.2 h3.2]; simp)]
     . rw [hd, if_neg h2', h1]; simp only [Bool.and_eq_false_iff, Bool.not_eq_false', beq_iff_eq] at h3; rcases h3 with h3 | h3 <;> simp [h3]
  . unfold q7f; rw [if_neg (by simp)]; refine Ok.some ?_; rw [List.take_length] at hI; rw [hp]; exact (List.all_eq_true.2 hI).symm
def nd (g : GGraph) (n : Nat) : GNode := g.Nodes.getD n ⟨0, 0, 0, []⟩
def fits (g : GGraph) (n : Nat) : Bool :=
 if n = 0 then (nd g n).Scope == 0
 else decide ((nd g n).Scope ∈ anc g.Parent (nd g (n - 1)).Scope) || (decide (g.Parent.getD (nd g n).Scope.toNat 0 ∈ anc g.Parent (nd g (n - 1)).Scope) && !(g.Nodes.take n).any fun x => x.Scope == (nd g n).Scope)
theorem qc0 {g : GGraph} {n : Nat} (h : n < g.Nodes.length) : g.Nodes[n] = nd g n := by unfold nd; rw [List.getD_eq_getElem?_getD, List.getElem?_eq_getElem h]; rfl
theorem zs2 {s : List GNode} {f : GNode -> Option Bool} {p : GNode -> Bool} (hl : s.length < 9223372036854775808) (hf : ∀ x ∈ s, f x = some (p x)) : q5w s f = some (s.any p) := qn9 hl hf
def inN (g : GGraph) (x : GNode) : Prop := 0 <= x.Scope /\ x.Scope < g.Parent.length
theorem j2u {g : GGraph} (hw : WP g.Parent g.Parent.length) (h8 : g.Parent.length <= 8) (hl : g.Nodes.length < 1000000) {n : Nat} (hn : n < g.Nodes.length) (hx : inN g (nd g n)) (hb : 0 < n -> inN g (nd g (n - 1))) : q9s g n = some (fits g n) := by
 unfold q9s fits; refine Ok.eq (Ok.bind (jh6 hn ?_)); rw [qc0 hn]
 by_cases h0 : n = 0
 . subst h0; simp only [Int.natCast_zero, beq_self_eq_true, if_true]; exact Ok.some rfl
 rw [if_neg (by simp; omega), if_neg h0]; have hb' := hb (by omega); have e1 : IntKind.i64.wrap ((n : Int) - 1) = ((n - 1 : Nat) : Int) := by rw [wrap_i64 _ (by omega)]; omega
 rw [e1]; refine Ok.bind (jh6 (show n - 1 < g.Nodes.length by omega) ?_); rw [qc0 (show n - 1 < g.Nodes.length by omega)]; refine jh4 (Ok.idx' hx.1 (by exact hx.2) (Q := fun x => x = g.Parent.getD (nd g n).Scope.toNat 0) fun x hx => getD_some hx) ?_; rintro o rfl; have hs0 : inS g.Parent.length (nd g (n - 1)).Scope := .inr hb'; have hJ : ∀ fresh : Bool, Ok (q7j g n (nd g n) fresh) (fun r => r = (fresh && !(g.Nodes.take n).any fun x => x.Scope == (nd g n).Scope)) := fun fresh => by
  unfold q7j; refine jh5 (fun h1 => ?_) (fun h1 => Ok.some (by rw [h1]; rfl)); refine Ok.guard (by omega) ?_; rw [Xa, zs2 (f := fun x0_ => q88 x0_ (nd g n).Scope) (p := fun x => x.Scope == (nd g n).Scope) (by rw [List.length_take]; omega) (fun x _ => rfl)]; exact Ok.bind (Ok.some (Ok.some (by rw [h1]; rfl)))
 refine jh7 (fun p : Bool × Int => inS g.Parent.length p.2 /\ ∃ pre, anc g.Parent (nd g (n - 1)).Scope = pre ++ anc g.Parent p.2 /\ (nd g n).Scope ∉ pre /\ p.1 = decide (g.Parent.getD (nd g n).Scope.toNat 0 ∈ pre)) (fun p => (p.2 + 1).toNat) ?_ ⟨hs0, [], by simp, by simp, by simp⟩ (by
  simp only [rounds]; have := hb'.2; omega)
 rintro rec ⟨fresh, p⟩ ⟨hi, pre, he, hnp, hf⟩ hr; dsimp only at hi he hf; unfold ql7; dsimp only; rcases hi with rfl | hi
 . rw [if_neg (by simp)]; rw [q6t, List.append_nil] at he; refine Ok.mono (hJ fresh) fun r hr' => ?_; rw [hr', he, decide_eq_false hnp, hf]; simp
 .
  rw [if_pos (by simpa using hi.1)]; have hst := q63 hw hi.1 hi.2; refine jh5 (fun h1 => Ok.some ?_) (fun h1 => ?_)
  . rw [beq_iff_eq] at h1; rw [decide_eq_true (show (nd g n).Scope ∈ anc g.Parent (nd g (n - 1)).Scope by rw [he, hst, h1]; simp)]; rfl
  .
   rw [beq_eq_false_iff_ne] at h1; refine jh4 (Ok.idx' hi.1 hi.2 (Q := fun x => x = g.Parent.getD p.toNat 0) fun x hx => getD_some hx) ?_; rintro q rfl; have hdn := (hw.2 p hi.1 hi.2).1; refine hr _ ⟨hw.down hi.1 hi.2, pre ++ [p], by rw [he, hst]; simp, by simp; exact ⟨hnp, Ne.symm h1⟩, ?_⟩ (by simp only; omega); simp only [hf, List.mem_append, List.mem_singleton]; rw [Bool.decide_or]
   congr 1
   rw [Bool.beq_eq_decide_eq]
   congr 1; apply propext; exact eq_comm
end VA
end Go.Proofs.YteibkihbdgphnaaGreat
