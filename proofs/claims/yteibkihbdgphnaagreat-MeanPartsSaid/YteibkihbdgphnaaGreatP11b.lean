/-
  The law in plain words: what its plain function gives is true. No condition beyond those that each theorem names.
-/
import Derived.Test.YteibkihbdgphnaaGreatWalkMP0
import Derived.Test.YteibkihbdgphnaaGreatP11a
set_option linter.unusedSimpArgs false
set_option linter.unusedVariables false
set_option linter.unusedSectionVars false
open List renaming take_succ_eq_append_getElem -> Xa, map_cons -> Xb, take_length -> Xc, take_append_drop -> Xd, map_nil -> Xe, append_assoc -> Xf, getElem_mem -> Xh
open Nat renaming zero_le -> Xg
namespace Go.Proofs.YteibkihbdgphnaaGreat
open Go Go.RowKit BG
namespace OP
def Pos (l : List GItem) : Prop := ∀ x ∈ l, 0 < x.N
theorem Pos.tot_nonneg : ∀ {l : List GItem}, Pos l -> (l.length : Int) <= tot l
 | [], _ => by simp [tot]
 | x :: l, h => by
  have h1 := h x (by simp); have h2 := Pos.tot_nonneg (l := l) fun y hy => h y (by simp [hy]); simp only [tot, Xb, List.sum_cons, List.length_cons] at *; omega
theorem Pos.big : ∀ {l : List GItem}, Pos l -> big l = tot l
 | [], _ => by simp [tot, BG.big]
 | x :: l, h => by
  have h1 := h x (by simp); have h2 := Pos.big (l := l) fun y hy => h y (by simp [hy]); simp only [tot, BG.big, Xb, List.sum_cons] at *; omega
theorem Pos.append {a b : List GItem} (h1 : Pos a) (h2 : Pos b) : Pos (a ++ b) := fun x hx => (List.mem_append.1 hx).elim (h1 x) (h2 x)
theorem Pos.left {a b : List GItem} (h : Pos (a ++ b)) : Pos a := fun x hx => h x (List.mem_append_left _ hx)
theorem Pos.right {a b : List GItem} (h : Pos (a ++ b)) : Pos b := fun x hx => h x (List.mem_append_right _ hx)
structure Mk (m : GOps_maker) : Prop where
 many : m.many = tot m.out
 pos : Pos m.out
 le : m.many <= 65536
def Res (m : GOps_maker) (O : List GItem) (v : Bool × GOps_maker) : Prop := (v.1 = true /\ v.2.out = m.out ++ O /\ Mk v.2) \/ (v.1 = false /\ 65536 < tot m.out + tot O)
theorem z9c {m : GOps_maker} {r : GRec} {n : Int} (h : Mk m) (hn : 0 < n) (hn2 : n <= 1099511627776) : Ok (q14 m r n) (fun v => Res m [⟨r, n⟩] v) := by
 have h1 := h.pos.tot_nonneg; have h2 := h.many; have h3 := h.le; unfold q14; rw [wrap_i64 (65536 - m.many) (by omega), wrap_i64 (m.many + n) (by omega)]; refine jh5 (fun hx => Ok.some (.inr ⟨rfl, ?_⟩)) (fun hx => Ok.guard (by simp; omega) (Ok.some (.inl ⟨rfl, rfl, ?_⟩)))
 . simp only [decide_eq_true_eq] at hx; simp [tot] at *; omega
 . simp only [decide_eq_false_iff_not] at hx; exact ⟨by simp only [q3a, h2]; simp [tot], h.pos.append (by intro x hx; simp at hx; rw [hx]; exact hn), by simp only; omega⟩
def lin (x : GNode) (b : List GItem) : List GItem := b.flatMap fun y => (sing x y.Rec).map (⟨·, y.N⟩)
theorem lin_append (x : GNode) (a b : List GItem) : lin x (a ++ b) = lin x a ++ lin x b := by simp [lin]
theorem lin_one (x : GNode) (y : GItem) : lin x [y] = (sing x y.Rec).map (⟨·, y.N⟩) := by simp [lin]
theorem lin_pos {x : GNode} {b : List GItem} (h : Pos b) : Pos (lin x b) := by
 intro z hz; obtain ⟨y, hy, hz⟩ := List.mem_flatMap.1 hz; obtain ⟨r, _, rfl⟩ := List.mem_map.1 hz; exact h y hy
theorem z4k {m : GOps_maker} {x : GNode} {b : List GItem} (h : Mk m) (hp : Pos b) (hb : ∀ y ∈ b, y.N <= 1099511627776) (hl : b.length < 1000000) : Ok (q2a m x b) (fun v => Res m (lin x b) v) := by
 unfold q2a; refine jh9 (l := b) (by omega) (fun i (s : Int × List GItem) => s.2 = m.out ++ lin x (b.take i) /\ Mk ⟨s.2, s.1⟩) 0 (fun rec i hi s _ hs hr => ?_) (fun rec s hs => ?_) ⟨by simp [lin], h⟩ (Xg _)
 .
  obtain ⟨many, out⟩ := s; simp only at hs; unfold q4q; simp only; refine jh5 (fun _ => Ok.bind (jh6 hi (Ok.bind (jh8 (j6r _ _) ?_)))) (fun hx => by simp only [decide_eq_false_iff_not] at hx; omega); have hmem := Xh hi; have hN := hp _ hmem; have hN2 := hb _ hmem; have hsl := j3u x b[i].Rec; have hsp : lin x b = lin x (b.take i) ++ (sing x b[i].Rec).map (⟨·, b[i].N⟩) ++ lin x (b.drop (i + 1)) := by
   rw [<- lin_one, <- lin_append, <- lin_append, <- Xa hi, Xd]
  have hpl := lin_pos (x := x) hp; rw [hsp] at hpl
  generalize hS : sing x b[i].Rec = S at hsl hsp hpl
  refine jh9 (l := S) (by omega) (fun j (s : Int × List GItem) => s.2 = m.out ++ lin x (b.take i) ++ (S.take j).map (⟨·, b[i].N⟩) /\ Mk ⟨s.2, s.1⟩) 0 (fun rec2 j hj s _ hs2 hr2 => ?_) (fun rec2 s hs2 => ?_) ⟨by simp only [List.take_zero, Xe, List.append_nil]; exact hs.1, hs.2⟩ (Xg _)
  .
   obtain ⟨many2, out2⟩ := s; simp only at hs2; unfold q4p; simp only; refine jh5 (fun _ => Ok.bind (jh6 hj (jh4 (z9c hs2.2 hN hN2) fun v hv => ?_))) (fun hx => by simp only [decide_eq_false_iff_not] at hx; omega); rw [wrap_i64 ((j : Int) + 1) (by omega)]; rcases hv with ⟨v1, v2, v3⟩ | ⟨v1, v2⟩
   . rw [v1]; refine jh5 (fun hx => by cases hx) (fun _ => hr2 _ ⟨?_, v3⟩); simp only at v2 ⊢; rw [v2, hs2.1, Xa hj, List.map_append]; simp only [Xb, Xe, Xf]
   .
    rw [v1]; refine jh5 (fun _ => Ok.some (.inr ⟨rfl, ?_⟩)) (fun hx => by cases hx); simp only at v2; rw [hs2.1] at v2; have e : S.map (fun r => (⟨r, b[i].N⟩ : GItem)) = (S.take j).map (⟨·, b[i].N⟩) ++ [⟨S[j], b[i].N⟩] ++ (S.drop (j + 1)).map (⟨·, b[i].N⟩) := by
     conv => lhs; rw [<- Xd (j + 1) S, Xa hj]
     simp only [List.map_append, Xb, Xe]
    rw [e] at hsp hpl; have p1 := hpl.right.tot_nonneg; have p2 := hpl.left.right.right.tot_nonneg; rw [hsp]; simp only [q3a] at v2 ⊢; have e3 : tot [(⟨S[j], b[i].N⟩ : GItem)] = b[i].N := by simp [tot]
    omega
  . obtain ⟨many2, out2⟩ := s; simp only at hs2; unfold q4p; simp only; refine jh5 (fun hx => by simp only [decide_eq_true_eq] at hx; omega) (fun _ => ?_); rw [wrap_i64 ((i : Int) + 1) (by omega)]; refine hr _ ⟨?_, hs2.2⟩; simp only; rw [hs2.1, Xc, Xa hi, lin_append, lin_one, hS, Xf]
 . obtain ⟨many, out⟩ := s; simp only at hs; rw [Xc] at hs; unfold q4q; simp only; exact jh5 (fun hx => by simp only [decide_eq_true_eq] at hx; omega) (fun _ => Ok.some (.inl ⟨rfl, hs.1, hs.2⟩))
theorem j7h {m : GOps_maker} (h : Mk m) : Ok (q51 m) (fun v => Puts [] v.1 m.out) := by
 have h1 := h.pos.tot_nonneg; have h2 := h.many; have h3 := h.le; have hbig := h.pos.big; unfold q51; refine jh9 (l := m.out) (by omega) (fun i s => Puts [] s (m.out.take i)) 0 (fun rec i hi s _ hs hr => ?_) (fun rec s hs => ?_) (by simpa using Puts.nil Rt.nil) (Xg _)
 . unfold q5r; simp only; refine jh5 (fun _ => Ok.bind (jh6 hi ?_)) (fun hx => by simp only [decide_eq_false_iff_not] at hx; omega); rw [wrap_i64 ((i : Int) + 1) (by omega)]; have g1 := zv5 (Xh hi); have g5 := hs.cnt m.out[i].Rec; have g6 := qb7 (m.out.take i) [m.out[i]]; rw [<- Xa hi] at g6; have g7 := zp0 (l := m.out) (i + 1); have g8 := z9a (m.out.take i) m.out[i].Rec; have g9 := hs.len; simp only [BG.big] at g6; rw [List.length_take] at g9; simp only [List.length_nil] at g9; refine jh4 (j9r hs.rt (by omega) (by omega) (by rw [g5]; simp only [cnt]; omega)) fun d hd => hr _ ?_; rw [Xa hi]; exact hs.snoc hd
 . unfold q5r; simp only; refine jh5 (fun hx => by simp only [decide_eq_true_eq] at hx; omega) (fun _ => Ok.some ?_); rw [Xc] at hs; exact hs
end OP
end Go.Proofs.YteibkihbdgphnaaGreat
