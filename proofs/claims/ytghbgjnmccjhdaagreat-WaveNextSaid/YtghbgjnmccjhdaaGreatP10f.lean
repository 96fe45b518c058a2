/-
  The law in plain words: what its plain function gives is true. No condition beyond those that each theorem names.
-/
import Derived.Test.YtghbgjnmccjhdaaGreatWalkWN0
import Derived.Test.YtghbgjnmccjhdaaGreatP10e
set_option linter.unusedSimpArgs false
set_option linter.unusedVariables false
set_option linter.unusedSectionVars false
namespace Go.Proofs.YtghbgjnmccjhdaaGreat
open Go Go.RowKit VA
namespace HP
open Classical
structure Fin_ (g : GGraph) (f : Nat) (row : List (List Hp)) : Prop where
 R : Row (lev g f : Int) g.Nodes.length (lev g) row
 self : cov (rw_ row f) (lev g f, List.replicate (lev g f) 0)
 cl : ∀ e ∈ g.Edges, ClE g (lev g f : Int) row e
section
variable {g : GGraph} (hG : VA.Good g) {F : Int}
include hG
theorem zw9 {start : List (List Hp)} (RS : Row F g.Nodes.length (lev g) start) {rec_3 : Bool × (List (List GHop)) → Option (List (List (List GHop)))} {Q : List (List (List GHop)) → Prop}
  (hr : ∀ more row, J g F start more row → (more = false → ∀ e ∈ g.Edges, ClE g F start e) → Ok (rec_3 (more, gh F row)) Q) :
  Ok (u7 (q7f g (q8k g) rec_3) rounds (false, 0, gh F start)) Q := by
 have hel := hG.el; refine qr4 (l := g.Edges) (by omega) (fun i (p : Bool × List (List Hp)) => (p.1, i, gh F p.2)) (fun p => p.2.1) (fun _ _ => rfl)
  (fun i p => J g F start p.1 p.2 ∧ (p.1 = false → ∀ e ∈ g.Edges.take i, ClE g F start e)) (s0 := (false, start)) 0 (fun rec i hi p _ hI hr' => ?_) (fun rec p hI => ?_) ⟨⟨RS, covRow.refl _, (fun h => by cases h), fun _ => rfl⟩, by simp⟩ (Nat.zero_le _)
 ·
  obtain ⟨more, row⟩ := p; obtain ⟨I1, I2⟩ := hI; dsimp only at I1 I2; obtain ⟨hf, ht, _⟩ := hG.ed.at (List.getElem_mem hi); have hrl := I1.R.len; unfold q7f; dsimp only; rw [if_pos (by simp; omega)]; refine Ok.bind (j6l hi ?_); have hfc : g.Edges[i].From = ((g.Edges[i].From.toNat : Nat) : Int) := by have := hf.1; omega
  rw [hfc]; refine Ok.bind (gh_get (by have := hf.1; have := hf.2; omega) ?_); refine j1o hG I1 hi fun more' row' j' hcl => hr' (more', row') ⟨j', fun hmo => ?_⟩; obtain ⟨b1, b2⟩ := hcl hmo; intro e he; rw [snoc hi, List.mem_append, List.mem_singleton] at he; rcases he with he | rfl
  · exact I2 b1 e he
  · exact b2
 · obtain ⟨more, row⟩ := p; obtain ⟨I1, I2⟩ := hI; dsimp only at I1 I2; unfold q7f; dsimp only; rw [if_neg (by simp)]; rw [List.take_length] at I2; exact hr more row I1 I2
omit hG in
theorem j64 : U = 5 * 1048577 * 1048577 * 33 := rfl
theorem j3b {f : Nat} {row0 : List (List Hp)} (R0 : Row (lev g f : Int) g.Nodes.length (lev g) row0) (hs : cov (rw_ row0 f) (lev g f, List.replicate (lev g f) 0)) {T : List (List (List GHop))} (hT : f < T.length) {rec_2 : Int × (List (List (List GHop))) → Option (List (List (List GHop)))} {Q : List (List (List GHop)) → Prop}
  (hr : ∀ row, Fin_ g f row → Ok (rec_2 (IntKind.i64.wrap ((f : Int) + 1), T.set f (gh (lev g f : Int) row))) Q) :
  Ok (u7 (q9l g (q8k g) (f : Int) T rec_2) rounds (true, gh (lev g f : Int) row0)) Q := by
 have hn := hG.nl; have hb := z7i g.Nodes.length (lev g) row0; refine z7x (fun p : Bool × List (List Hp) => (p.1, gh (lev g f : Int) p.2)) (fun p => Row (lev g f : Int) g.Nodes.length (lev g) p.2 ∧ cov (rw_ p.2 f) (lev g f, List.replicate (lev g f) 0) ∧ (p.1 = false → ∀ e ∈ g.Edges, ClE g (lev g f : Int) p.2 e))
  (fun p => if p.1 = true then g.Nodes.length * U - Phi g.Nodes.length (lev g) p.2 + 1 else 0) ?_ rounds (true, row0) ⟨R0, hs, fun h => by cases h⟩ ?_
 ·
  rintro rec ⟨more, row⟩ ⟨I1, I2, I3⟩ hr'; dsimp only at I1 I2 I3 hr'; unfold q9l; dsimp only; refine j6k (fun hm => ?_) (fun hm => ?_)
  ·
   refine zw9 hG I1 fun more' row' j' hcl => hr' (more', row') ⟨j'.R, j'.c _ _ I2, fun hmo => ?_⟩ ?_
   · dsimp only at hmo ⊢; have := hcl hmo; rw [j'.f hmo]; exact this
   ·
    dsimp only; rw [if_pos hm]; have hb1 := z7i g.Nodes.length (lev g) row'
    cases hmo : more' with
    | true => have := j'.t hmo; simp only [if_true]; omega
    | false => simp
  · refine Ok.bind (j6l hT ?_); rw [Int.toNat_natCast]; exact hr row ⟨I1, I2, I3 hm⟩
 ·
  simp only [if_true]; have hN : g.Nodes.length * U ≤ 32 * U := Nat.mul_le_mul_right _ hn.2; have : 32 * U + 1 < rounds := by rw [j64]; simp only [rounds]; omega
  omega
theorem zo1 {f : Nat} (hf : f < g.Nodes.length) : Row (lev g f : Int) g.Nodes.length (lev g) ((List.replicate g.Nodes.length []).set f [(lev g f, List.replicate (lev g f) 0)]) ∧ cov (rw_ ((List.replicate g.Nodes.length []).set f [(lev g f, List.replicate (lev g f) 0)]) f) (lev g f, List.replicate (lev g f) 0) := by
 obtain ⟨l1, l4⟩ := lev4 hG f; have hlen : f < (List.replicate g.Nodes.length ([] : List Hp)).length := by simpa using hf
 have hw : ∀ w, rw_ ((List.replicate g.Nodes.length []).set f [(lev g f, List.replicate (lev g f) 0)]) w = if w = f then [(lev g f, List.replicate (lev g f) 0)] else [] := fun w => by
  rw [qw1 hlen]
  split
  · rfl
  · unfold rw_; rw [List.getD_eq_getElem?_getD, List.getElem?_replicate]; split <;> rfl
 have hmem : ∀ w p, p ∈ rw_ ((List.replicate g.Nodes.length []).set f [(lev g f, List.replicate (lev g f) 0)]) w → w = f ∧ p = (lev g f, List.replicate (lev g f) 0) := fun w p hp => by
  rw [hw] at hp
  split at hp
  · rename_i h; exact ⟨h, by simpa using hp⟩
  · cases hp
 refine ⟨⟨by simp, fun w p hp => ?_, fun w p hp => ?_, fun w => ?_, fun w h4 p hp => ?_⟩, ?_⟩
 · obtain ⟨rfl, rfl⟩ := hmem w p hp; exact ⟨(z2x l1 l4).1, by simp⟩
 · obtain ⟨rfl, rfl⟩ := hmem w p hp; dsimp only; rw [List.getD_eq_getElem?_getD, List.getElem?_replicate]; split <;> rfl
 ·
  rw [hw]
  split
  · exact List.pairwise_singleton _ _
  · exact List.Pairwise.nil
 · obtain ⟨rfl, rfl⟩ := hmem w p hp; refine ⟨[], by simp, ?_, fun j hj => by simp at hj⟩; dsimp only; rw [List.getD_eq_getElem?_getD, List.getElem?_replicate]; split <;> rfl
 · rw [hw, if_pos rfl]; exact ⟨_, by simp, z3t _⟩
def tblL (g : GGraph) (tbl : Nat → List (List Hp)) (n : Nat) : List (List (List GHop)) := (List.range n).map fun j => gh (lev g j : Int) (tbl j)
theorem Table_ok : Ok (q51 g) fun t => ∃ tbl : Nat → List (List Hp), t = tblL g tbl g.Nodes.length ∧ ∀ j < g.Nodes.length, Fin_ g j (tbl j) := by
 have hn := hG.nl; have hel := hG.el; unfold q51; rw [zb4]; refine Ok.bind (Ok.some ?_); rw [z4a.2 hG, if_neg (by simp)]; refine Ok.guard (by omega) (Ok.guard (by omega) ?_); have hz : (⟨0, 0, 0, (⟨0, 0, 0, 0⟩ : Arr4 Int), (⟨0, 0, 0, 0⟩ : Arr4 Int)⟩ : GHop) = none := rfl; refine qr4 (l := g.Edges) (by omega) (fun i (a : List GHop) => (i, a)) (fun p => p.1) (fun _ _ => rfl) (fun i a => a = (q8k g).take i ++ List.replicate (g.Edges.length - i) none) 0 (fun rec i hi a _ hI hr => ?_) (fun rec a hI => ?_) (by simp [hz]) (Nat.zero_le _)
 ·
  subst hI; have hsl : (q8k g).length = g.Edges.length := by unfold q8k; simp
  unfold q9k; dsimp only; rw [if_pos (by simp; omega), iw hi (by omega)]; refine Ok.bind (j6l hi ?_); rw [(step_eq hG (List.getElem_mem hi)).2]; refine Ok.bind (Ok.some (Ok.bind (j6l (by simp; omega) (hr _ ?_)))); rw [Int.toNat_natCast, snoc (show i < (q8k g).length by omega)]; have htl : ((q8k g).take i).length = i := by rw [List.length_take]; omega
  rw [List.set_append_right _ _ (by omega), htl, Nat.sub_self]; obtain ⟨m, hm⟩ : ∃ m, g.Edges.length - i = m + 1 := ⟨g.Edges.length - i - 1, by omega⟩; rw [hm, List.replicate_succ, List.set_cons_zero, List.append_assoc, show g.Edges.length - (i + 1) = m by omega]
  congr 2
  unfold q8k; rw [List.getElem_map]; rfl
 ·
  subst hI; unfold q9k; dsimp only; rw [if_neg (by simp), Nat.sub_self, List.replicate_zero, List.append_nil, List.take_of_length_le (by unfold q8k; simp)]; unfold q9j; refine qr4 (l := g.Nodes) (by omega) (fun i (a : List (List (List GHop))) => (i, a)) (fun p => p.1) (fun _ _ => rfl) (fun i a => ∃ tbl : Nat → List (List Hp), a = tblL g tbl i ++ List.replicate (g.Nodes.length - i) [] ∧ ∀ j < i, Fin_ g j (tbl j)) 0 (fun rec' i hi a _ hI hr' => ?_) (fun rec' a hI => ?_) ⟨fun _ => [], by simp [tblL], by simp⟩ (Nat.zero_le _)
  ·
   obtain ⟨tbl, rfl, hfin⟩ := hI; obtain ⟨l1, l4⟩ := lev4 hG i; unfold q9m; dsimp only; rw [if_pos (by simp; omega)]; refine Ok.guard (by omega) ?_; rw [Takes_eq hG hi]; refine Ok.bind (Ok.some ?_); rw [(z2x l1 l4).2]; refine Ok.bind (Ok.some (Ok.bind (j6l (by simpa using hi) ?_))); dsimp only; rw [Int.toNat_natCast]; have hgh : (List.replicate g.Nodes.length ([] : List GHop)).set i [mk (lev g i : Int) (lev g i) (List.replicate (lev g i) 0)] = gh (lev g i : Int) ((List.replicate g.Nodes.length []).set i [(lev g i, List.replicate (lev g i) 0)]) := by
    unfold gh; rw [List.map_set, List.map_replicate]; rfl
   rw [hgh]; obtain ⟨R0, s0⟩ := zo1 hG hi; have htl : (tblL g tbl i).length = i := by unfold tblL; simp
   refine j3b hG R0 s0 (by rw [List.length_append, htl, List.length_replicate]; omega) fun row hrow => ?_; rw [iw hi (by omega)]; refine hr' _ ⟨fun j => if j = i then row else tbl j, ?_, fun j hj => ?_⟩
   ·
    rw [List.set_append_right _ _ (by omega), htl, Nat.sub_self]; obtain ⟨m, hm⟩ : ∃ m, g.Nodes.length - i = m + 1 := ⟨g.Nodes.length - i - 1, by omega⟩; rw [hm, List.replicate_succ, List.set_cons_zero, show g.Nodes.length - (i + 1) = m by omega]; have e1 : tblL g (fun j => if j = i then row else tbl j) (i + 1) = tblL g tbl i ++ [gh (lev g i : Int) row] := by
     unfold tblL; rw [List.range_succ, List.map_append]
     congr 1
     ·
      refine List.map_congr_left fun j hj => ?_; have hji : ¬ j = i := Nat.ne_of_lt (List.mem_range.1 hj)
      show gh _ (if j = i then row else tbl j) = _
      rw [if_neg hji]
     · simp
    rw [e1, List.append_assoc]; rfl
   ·
    by_cases h : j = i
    · subst h; simp only [if_true]; exact hrow
    · simp only [if_neg h]; exact hfin j (by omega)
  · obtain ⟨tbl, rfl, hfin⟩ := hI; unfold q9m; dsimp only; rw [if_neg (by simp), Nat.sub_self, List.replicate_zero, List.append_nil]; exact Ok.some ⟨tbl, rfl, hfin⟩
end
end HP
end Go.Proofs.YtghbgjnmccjhdaaGreat
