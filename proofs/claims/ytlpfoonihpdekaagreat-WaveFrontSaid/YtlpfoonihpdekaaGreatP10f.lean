/-
  The law in plain words: what its plain function gives is true. No condition beyond those that each theorem names.
-/
import Derived.Test.YtlpfoonihpdekaaGreatWalkWF0
import Derived.Test.YtlpfoonihpdekaaGreatP10e
set_option linter.unusedSimpArgs false
set_option linter.unusedVariables false
set_option linter.unusedSectionVars false
namespace Go.Proofs.YtlpfoonihpdekaaGreat
open Go Go.RowKit VA
namespace HP
open Classical
structure Fin_ (g : GGraph) (f : Nat) (row : List (List Hp)) : Prop where
 R : Row (lev g f : Int) g.Nodes.length (lev g) row
 self : cov (p9 row f) (lev g f, List.replicate (lev g f) 0)
 cl : ∀ e ∈ g.Edges, ClE g (lev g f : Int) row e
 mn : ∀ T, ClT g (lev g f : Int) T → cov (p9 T f) (lev g f, List.replicate (lev g f) 0) → covRow row T
section
variable {g : GGraph} (hG : VA.Good g) {F : Int}
include hG
theorem j2n {start : List (List Hp)} (RS : Row F g.Nodes.length (lev g) start) {rec_3 : Bool × (List (List GHop)) → Option (List (List (List GHop)))} {Q : List (List (List GHop)) → Prop}
  (hr : ∀ more row, J g F start more row → (more = false → ∀ e ∈ g.Edges, ClE g F start e) → Ok (rec_3 (more, gh F row)) Q) :
  Ok (w9 (q9b g (qd7 g) rec_3) rounds (false, 0, gh F start)) Q := by
 have hel := hG.el; refine q3k (l := g.Edges) (by omega) (fun i (p : Bool × List (List Hp)) => (p.1, i, gh F p.2)) (fun p => p.2.1) (fun _ _ => rfl)
  (fun i p => J g F start p.1 p.2 ∧ (p.1 = false → ∀ e ∈ g.Edges.take i, ClE g F start e)) (s0 := (false, start)) 0 (fun rec i hi p _ hI hr' => ?_) (fun rec p hI => ?_) ⟨⟨RS, covRow.refl _, (fun h => by cases h), (fun _ => rfl), fun _ _ h => h⟩, by simp⟩ (Nat.zero_le _)
 ·
  obtain ⟨more, row⟩ := p; obtain ⟨I1, I2⟩ := hI; dsimp only at I1 I2; obtain ⟨hf, ht, _⟩ := hG.ed.at (List.getElem_mem hi); have hrl := I1.R.len; unfold q9b; dsimp only; rw [if_pos (by simp; omega)]; refine Ok.bind (ja0 hi ?_); have hfc : g.Edges[i].From = ((g.Edges[i].From.toNat : Nat) : Int) := by have := hf.1; omega
  rw [hfc]; refine Ok.bind (qe3 (by have := hf.1; have := hf.2; omega) ?_); refine j4y hG I1 hi fun more' row' j' hcl => hr' (more', row') ⟨j', fun hmo => ?_⟩; obtain ⟨b1, b2⟩ := hcl hmo; intro e he; rw [snoc hi, List.mem_append, List.mem_singleton] at he; rcases he with he | rfl
  · exact I2 b1 e he
  · exact b2
 · obtain ⟨more, row⟩ := p; obtain ⟨I1, I2⟩ := hI; dsimp only at I1 I2; unfold q9b; dsimp only; rw [if_neg (by simp)]; rw [List.take_length] at I2; exact hr more row I1 I2
omit hG in
theorem j7g : U = 5 * 1048577 * 1048577 * 33 := rfl
theorem j6i {f : Nat} {row0 : List (List Hp)} (R0 : Row (lev g f : Int) g.Nodes.length (lev g) row0) (hs : cov (p9 row0 f) (lev g f, List.replicate (lev g f) 0)) (hmn : ∀ T, ClT g (lev g f : Int) T → cov (p9 T f) (lev g f, List.replicate (lev g f) 0) → covRow row0 T) {T : List (List (List GHop))} (hT : f < T.length) {rec_2 : Int × (List (List (List GHop))) → Option (List (List (List GHop)))} {Q : List (List (List GHop)) → Prop}
  (hr : ∀ row, Fin_ g f row → Ok (rec_2 (IntKind.i64.wrap ((f : Int) + 1), T.set f (gh (lev g f : Int) row))) Q) :
  Ok (w9 (qg5 g (qd7 g) (f : Int) T rec_2) rounds (true, gh (lev g f : Int) row0)) Q := by
 have hn := hG.nl; have hb := z6p g.Nodes.length (lev g) row0; refine z96 (fun p : Bool × List (List Hp) => (p.1, gh (lev g f : Int) p.2)) (fun p => Row (lev g f : Int) g.Nodes.length (lev g) p.2 ∧ cov (p9 p.2 f) (lev g f, List.replicate (lev g f) 0) ∧ (p.1 = false → ∀ e ∈ g.Edges, ClE g (lev g f : Int) p.2 e) ∧ (∀ T, ClT g (lev g f : Int) T → cov (p9 T f) (lev g f, List.replicate (lev g f) 0) → covRow p.2 T))
  (fun p => if p.1 = true then g.Nodes.length * U - Phi g.Nodes.length (lev g) p.2 + 1 else 0) ?_ rounds (true, row0) ⟨R0, hs, (fun h => by cases h), hmn⟩ ?_
 ·
  rintro rec ⟨more, row⟩ ⟨I1, I2, I3, I4⟩ hr'; dsimp only at I1 I2 I3 I4 hr'; unfold qg5; dsimp only; refine j9z (fun hm => ?_) (fun hm => ?_)
  ·
   refine j2n hG I1 fun more' row' j' hcl => hr' (more', row') ⟨j'.R, j'.c _ _ I2, fun hmo => ?_, fun T hT hs' => j'.s T hT (I4 T hT hs')⟩ ?_
   · dsimp only at hmo ⊢; have := hcl hmo; rw [j'.f hmo]; exact this
   ·
    dsimp only; rw [if_pos hm]; have hb1 := z6p g.Nodes.length (lev g) row'
    cases hmo : more' with
    | true => have := j'.t hmo; simp only [if_true]; omega
    | false => simp
  · refine Ok.bind (ja0 hT ?_); rw [Int.toNat_natCast]; exact hr row ⟨I1, I2, I3 hm, I4⟩
 ·
  simp only [if_true]; have hN : g.Nodes.length * U ≤ 32 * U := Nat.mul_le_mul_right _ hn.2; have : 32 * U + 1 < rounds := by rw [j7g]; simp only [rounds]; omega
  omega
theorem zd7 {f : Nat} (hf : f < g.Nodes.length) : Row (lev g f : Int) g.Nodes.length (lev g) ((List.replicate g.Nodes.length []).set f [(lev g f, List.replicate (lev g f) 0)]) ∧ cov (p9 ((List.replicate g.Nodes.length []).set f [(lev g f, List.replicate (lev g f) 0)]) f) (lev g f, List.replicate (lev g f) 0) ∧ (∀ T, ClT g (lev g f : Int) T → cov (p9 T f) (lev g f, List.replicate (lev g f) 0) → covRow ((List.replicate g.Nodes.length []).set f [(lev g f, List.replicate (lev g f) 0)]) T) := by
 obtain ⟨l1, l4⟩ := qw8 hG f; have hlen : f < (List.replicate g.Nodes.length ([] : List Hp)).length := by simpa using hf
 have hw : ∀ w, p9 ((List.replicate g.Nodes.length []).set f [(lev g f, List.replicate (lev g f) 0)]) w = if w = f then [(lev g f, List.replicate (lev g f) 0)] else [] := fun w => by
  rw [q9z hlen]
  split
  · rfl
  · unfold p9; rw [List.getD_eq_getElem?_getD, List.getElem?_replicate]; split <;> rfl
 have hmem : ∀ w p, p ∈ p9 ((List.replicate g.Nodes.length []).set f [(lev g f, List.replicate (lev g f) 0)]) w → w = f ∧ p = (lev g f, List.replicate (lev g f) 0) := fun w p hp => by
  rw [hw] at hp
  split at hp
  · rename_i h; exact ⟨h, by simpa using hp⟩
  · cases hp
 refine ⟨⟨by simp, fun w p hp => ?_, fun w p hp => ?_, fun w => ?_, fun w h4 p hp => ?_⟩, ?_⟩
 · obtain ⟨rfl, rfl⟩ := hmem w p hp; exact ⟨(z7d l1 l4).1, by simp⟩
 · obtain ⟨rfl, rfl⟩ := hmem w p hp; dsimp only; rw [List.getD_eq_getElem?_getD, List.getElem?_replicate]; split <;> rfl
 ·
  rw [hw]
  split
  · exact List.pairwise_singleton _ _
  · exact List.Pairwise.nil
 · obtain ⟨rfl, rfl⟩ := hmem w p hp; refine ⟨[], by simp, ?_, fun j hj => by simp at hj⟩; dsimp only; rw [List.getD_eq_getElem?_getD, List.getElem?_replicate]; split <;> rfl
 · refine ⟨by rw [hw, if_pos rfl]; exact ⟨_, by simp, q92 _⟩, fun T hT hs w z ⟨y, hy, hyz⟩ => ?_⟩; obtain ⟨rfl, rfl⟩ := hmem w y hy; obtain ⟨t, ht, htl⟩ := hs; exact ⟨t, ht, q8w (n := lev g w) (hT.rp _ _ ht).2 (by simp) htl hyz⟩
def q7c (g : GGraph) (tbl : Nat → List (List Hp)) (n : Nat) : List (List (List GHop)) := (List.range n).map fun j => gh (lev g j : Int) (tbl j)
theorem j30 : Ok (q8k g) fun t => ∃ tbl : Nat → List (List Hp), t = q7c g tbl g.Nodes.length ∧ ∀ j < g.Nodes.length, Fin_ g j (tbl j) := by
 have hn := hG.nl; have hel := hG.el; unfold q8k; rw [z8d]; refine Ok.bind (Ok.some ?_); rw [z1p.2 hG, if_neg (by simp)]; refine Ok.guard (by omega) (Ok.guard (by omega) ?_); have hz : (⟨0, 0, 0, (⟨0, 0, 0, 0⟩ : Arr4 Int), (⟨0, 0, 0, 0⟩ : Arr4 Int)⟩ : GHop) = none := rfl; refine q3k (l := g.Edges) (by omega) (fun i (a : List GHop) => (i, a)) (fun p => p.1) (fun _ _ => rfl) (fun i a => a = (qd7 g).take i ++ List.replicate (g.Edges.length - i) none) 0 (fun rec i hi a _ hI hr => ?_) (fun rec a hI => ?_) (by simp [hz]) (Nat.zero_le _)
 ·
  subst hI; have hsl : (qd7 g).length = g.Edges.length := by unfold qd7; simp
  unfold qg4; dsimp only; rw [if_pos (by simp; omega), iw hi (by omega)]; refine Ok.bind (ja0 hi ?_); rw [(z6t hG (List.getElem_mem hi)).2]; refine Ok.bind (Ok.some (Ok.bind (ja0 (by simp; omega) (hr _ ?_)))); rw [Int.toNat_natCast, snoc (show i < (qd7 g).length by omega)]; have htl : ((qd7 g).take i).length = i := by rw [List.length_take]; omega
  rw [List.set_append_right _ _ (by omega), htl, Nat.sub_self]; obtain ⟨m, hm⟩ : ∃ m, g.Edges.length - i = m + 1 := ⟨g.Edges.length - i - 1, by omega⟩; rw [hm, List.replicate_succ, List.set_cons_zero, List.append_assoc, show g.Edges.length - (i + 1) = m by omega]
  congr 2
  unfold qd7; rw [List.getElem_map]; rfl
 ·
  subst hI; unfold qg4; dsimp only; rw [if_neg (by simp), Nat.sub_self, List.replicate_zero, List.append_nil, List.take_of_length_le (by unfold qd7; simp)]; unfold qg3; refine q3k (l := g.Nodes) (by omega) (fun i (a : List (List (List GHop))) => (i, a)) (fun p => p.1) (fun _ _ => rfl) (fun i a => ∃ tbl : Nat → List (List Hp), a = q7c g tbl i ++ List.replicate (g.Nodes.length - i) [] ∧ ∀ j < i, Fin_ g j (tbl j)) 0 (fun rec' i hi a _ hI hr' => ?_) (fun rec' a hI => ?_) ⟨fun _ => [], by simp [q7c], by simp⟩ (Nat.zero_le _)
  ·
   obtain ⟨tbl, rfl, hfin⟩ := hI; obtain ⟨l1, l4⟩ := qw8 hG i; unfold qg6; dsimp only; rw [if_pos (by simp; omega)]; refine Ok.guard (by omega) ?_; rw [zm4 hG hi]; refine Ok.bind (Ok.some ?_); rw [(z7d l1 l4).2]; refine Ok.bind (Ok.some (Ok.bind (ja0 (by simpa using hi) ?_))); dsimp only; rw [Int.toNat_natCast]; have hgh : (List.replicate g.Nodes.length ([] : List GHop)).set i [mk (lev g i : Int) (lev g i) (List.replicate (lev g i) 0)] = gh (lev g i : Int) ((List.replicate g.Nodes.length []).set i [(lev g i, List.replicate (lev g i) 0)]) := by
    unfold gh; rw [List.map_set, List.map_replicate]; rfl
   rw [hgh]; obtain ⟨R0, s0, m0⟩ := zd7 hG hi; have htl : (q7c g tbl i).length = i := by unfold q7c; simp
   refine j6i hG R0 s0 m0 (by rw [List.length_append, htl, List.length_replicate]; omega) fun row hrow => ?_; rw [iw hi (by omega)]; refine hr' _ ⟨fun j => if j = i then row else tbl j, ?_, fun j hj => ?_⟩
   ·
    rw [List.set_append_right _ _ (by omega), htl, Nat.sub_self]; obtain ⟨m, hm⟩ : ∃ m, g.Nodes.length - i = m + 1 := ⟨g.Nodes.length - i - 1, by omega⟩; rw [hm, List.replicate_succ, List.set_cons_zero, show g.Nodes.length - (i + 1) = m by omega]; have e1 : q7c g (fun j => if j = i then row else tbl j) (i + 1) = q7c g tbl i ++ [gh (lev g i : Int) row] := by
     unfold q7c; rw [List.range_succ, List.map_append]
     congr 1
     ·
      refine List.map_congr_left fun j hj => ?_; have hji : ¬ j = i := Nat.ne_of_lt (List.mem_range.1 hj)
      show gh _ (if j = i then row else tbl j) = _
      rw [if_neg hji]
     · simp
    rw [e1, List.append_assoc]; rfl
   ·
    by_cases h : j = i
    · subst h; simp only [if_true]; exact hrow
    · simp only [if_neg h]; exact hfin j (by omega)
  · obtain ⟨tbl, rfl, hfin⟩ := hI; unfold qg6; dsimp only; rw [if_neg (by simp), Nat.sub_self, List.replicate_zero, List.append_nil]; exact Ok.some ⟨tbl, rfl, hfin⟩
end
end HP
end Go.Proofs.YtlpfoonihpdekaaGreat
