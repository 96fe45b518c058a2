/-
  The law in plain words: what its plain function gives is true. No condition beyond those that each theorem names.
-/
import Derived.Test.YteibkihbdgphnaaGreatWalkMP0
import Derived.Test.YteibkihbdgphnaaGreatP09c
set_option linter.unusedSimpArgs false
set_option linter.unusedVariables false
set_option linter.unusedSectionVars false
open List renaming getD_eq_getElem?_getD -> Xa, mem_singleton -> Xb, mem_filter -> Xc, mem_append -> Xd, mem_iff_getElem -> Xf, mem_of_mem_take -> Xg, mem_cons_self -> Xh, length_range -> Xj, length_cons -> Xm
open Int renaming lt_or_eq_of_le -> Xe
open Bool renaming not_eq_false' -> Xi, not_eq_true' -> Xk, and_eq_true -> Xn
open Nat renaming zero_le -> Xl
namespace Go.Proofs.YteibkihbdgphnaaGreat
open Go Go.RowKit
namespace VA
theorem z97 {g : GGraph} {n : Nat} (h : qk9 g n = 0) : inG g (ed g n).From /\ inG g (ed g n).To /\ (ndI g (ed g n).From).Kind ≠ 15 /\ (0 <= (ed g n).Port /\ (ed g n).Port < ports (ndI g (ed g n).To).Kind) /\ q95 g (ndI g (ed g n).From) = qf7 g (ndI g (ed g n).To) /\
  ((ed g n).To <= (ed g n).From -> (ndI g (ed g n).From).Kind = 12) /\ (z2h (ndI g (ed g n).To).Kind = true -> (ed g n).Exchange = true) /\ (g.Edges.take n).any (fun e => e.To == (ed g n).To && e.Port == (ed g n).Port) = false := by
 unfold qk9 at h
 split at h
 . cases h
 split at h
 . cases h
 split at h
 . cases h
 split at h
 . cases h
 split at h
 . cases h
 split at h
 . cases h
 rename_i h1 h2 h3 h4 h5 h6
 have h1' := Decidable.byContradiction h1; rw [not_or] at h2; refine ⟨h1'.1, h1'.2, h2.1, Decidable.byContradiction h2.2, Decidable.byContradiction h3, fun hh => Decidable.byContradiction fun hk => h4 ⟨hh, hk⟩, fun hk => ?_, by simpa using h6⟩
 cases hx : (ed g n).Exchange
 . exact absurd ⟨hk, hx⟩ h5
 . rfl
def AllE (g : GGraph) : Prop := ∀ n < g.Edges.length, qk9 g n = 0
theorem j8r {g : GGraph} {e : GEdge} (h : e ∈ g.Edges) : ∃ n, n < g.Edges.length /\ ed g n = e := by
 obtain ⟨n, hn, rfl⟩ := Xf.1 h; exact ⟨n, hn, (zn6 hn).symm⟩
theorem AllE.at {g : GGraph} (h : AllE g) {e : GEdge} (he : e ∈ g.Edges) : inG g e.From /\ inG g e.To /\ (ndI g e.From).Kind ≠ 15 /\ (0 <= e.Port /\ e.Port < ports (ndI g e.To).Kind) /\ q95 g (ndI g e.From) = qf7 g (ndI g e.To) /\
  (e.To <= e.From -> (ndI g e.From).Kind = 12) /\ (z2h (ndI g e.To).Kind = true -> e.Exchange = true) := by
 obtain ⟨n, hn, rfl⟩ := j8r he; have := z97 (h n hn); exact ⟨this.1, this.2.1, this.2.2.1, this.2.2.2.1, this.2.2.2.2.1, this.2.2.2.2.2.1, this.2.2.2.2.2.2.1⟩
theorem AllE.pw {g : GGraph} (h : AllE g) : g.Edges.Pairwise fun a b => ¬ (a.To = b.To /\ a.Port = b.Port) := by
 rw [List.pairwise_iff_getElem]; intro i j hi hj hij hh; have h1 := (z97 (h j hj)).2.2.2.2.2.2.2; rw [List.any_eq_false] at h1; refine h1 g.Edges[i] ?_ ?_
 . exact Xf.2 ⟨i, by rw [List.length_take]; omega, by simp⟩
 . rw [<- zn6 hj, hh.1, hh.2]; simp
def z9b (g : GGraph) (n : Nat) : Nat := (g.Edges.filter fun e => e.To == (n : Int)).length
theorem few {L : List Int} {k : Int} (hk : k = 0 \/ k = 1 \/ k = 2) (hn : L.Pairwise (· ≠ ·)) (hr : ∀ x ∈ L, 0 <= x /\ x < k) : (∀ p : Int, 0 <= p -> p < k -> p ∈ L) ↔ k <= L.length := by
 rcases hk with rfl | rfl | rfl
 . exact ⟨fun _ => by omega, fun _ p h1 h2 => by omega⟩
 .
  constructor
  . intro h; have := List.length_pos_of_mem (h 0 (by omega) (by omega)); omega
  .
   intro h p h1 h2
   match L, h with
   | [], h => simp at h
   | a :: L, _ =>
    have := hr a Xh; have : a = p := by omega
    rw [this]; exact Xh
 .
  constructor
  .
   intro h; have h0 := h 0 (by omega) (by omega); have h1 := h 1 (by omega) (by omega)
   match L, h0, h1 with
   | [a], h0, h1 =>
    simp at h0 h1; omega
   | a :: b :: L, _, _ => simp only [Xm]; omega
  .
   intro h p h1 h2
   match L, hn, hr, h with
   | [], _, _, h => simp at h
   | [a], _, _, h => simp at h
   | a :: b :: L, hn, hr, _ =>
    have ha := hr a (by simp); have hb := hr b (by simp); have hab : a ≠ b := (List.pairwise_cons.1 hn).1 b (by simp); have : p = a \/ p = b := by omega
    rcases this with rfl | rfl <;> simp
theorem zk2 (k : Int) : ports k = 0 \/ ports k = 1 \/ ports k = 2 := by
 unfold ports; split
 . exact .inr (.inr rfl)
 .
  split
  . exact .inr (.inl rfl)
  . exact .inl rfl
theorem zv3 {g : GGraph} (h : AllE g) (n : Nat) : (∀ p : Int, 0 <= p -> p < ports (nd g n).Kind -> (g.Edges.any fun e => e.To == (n : Int) && e.Port == p) = true) ↔ ports (nd g n).Kind <= z9b g n := by
 have hf := few (L := (g.Edges.filter fun e => e.To == (n : Int)).map (·.Port)) (zk2 (nd g n).Kind) ?_ ?_
 .
  rw [List.length_map] at hf; rw [z9b, <- hf]; refine forall_congr' fun p => forall_congr' fun _ => forall_congr' fun _ => ?_; rw [List.any_eq_true, List.mem_map]
  constructor
  . rintro ⟨e, he, hp⟩; simp only [Xn, beq_iff_eq] at hp; exact ⟨e, Xc.2 ⟨he, by simp [hp.1]⟩, hp.2⟩
  . rintro ⟨e, he, rfl⟩; have := Xc.1 he; exact ⟨e, this.1, by simp only [Xn]; exact ⟨this.2, by simp⟩⟩
 . rw [List.pairwise_map]; refine (h.pw.sublist List.filter_sublist).imp_of_mem ?_; intro a b ha hb hab hp; have h1 := (Xc.1 ha).2; have h2 := (Xc.1 hb).2; rw [beq_iff_eq] at h1 h2; exact hab ⟨h1.trans h2.symm, hp⟩
 .
  intro x hx; obtain ⟨e, he, rfl⟩ := List.mem_map.1 hx; have h1 := Xc.1 he; have h2 := (h.at h1.1).2.2.2.1; have h3 : e.To = n := by simpa using h1.2
  rw [h3] at h2; exact h2
theorem j78 {g : GGraph} (h : AllE g) (hE : g.Edges.length < 1000000) {n : Nat} (hn : n < g.Nodes.length) : qi0 g n = some (decide (ports (nd g n).Kind <= z9b g n)) := by
 unfold qi0; refine Ok.eq (Ok.bind (jh6 hn ?_)); rw [qc0 hn, zq0]; refine Ok.bind (Ok.some ?_); have hk := zk2 (nd g n).Kind; have hkn : ((List.range (ports (nd g n).Kind).toNat).length : Int) = ports (nd g n).Kind := by rw [Xj]; omega
 refine ji0 (l := List.range (ports (nd g n).Kind).toNat) (by rw [Xj]; omega) (fun i => ∀ p : Int, 0 <= p -> p < i -> (g.Edges.any fun e => e.To == (n : Int) && e.Port == p) = true) 0 (fun rec i hi _ hI hr => ?_) (fun rec hI => ?_) (by intro p h1 h2; omega) (Xl _)
 .
  unfold qg0; rw [if_pos (by simp only [decide_eq_true_eq]; omega), j2g _ _ hE]; refine Ok.bind (Ok.some ?_); refine jh5 (fun h1 => Ok.some ?_) (fun h1 => ?_)
  .
   rw [Xk] at h1
   symm; rw [decide_eq_false_iff_not, <- zv3 h]
   intro hh; rw [hh i (by omega) (by omega)] at h1; cases h1
  .
   rw [Xi] at h1; rw [iw hi (by omega)]; refine hr fun p h2 h3 => ?_; rcases Xe (show p <= i by omega) with h4 | rfl
   . exact hI p h2 h4
   . exact h1
 .
  unfold qg0; rw [if_neg (by simp only [decide_eq_true_eq]; omega)]; refine Ok.some ?_
  symm; rw [decide_eq_true_eq, <- zv3 h]
  exact fun p h1 h2 => hI p h1 (by omega)
def panc (P : List Int) (s : Int) : List Int := anc P (P.getD s.toNat 0)
section
variable {g : GGraph} (hw : WP g.Parent g.Parent.length) (h8 : g.Parent.length <= 8)
include hw h8
theorem j3i {s o : Int} (h0 : 0 <= o) (h1 : o < g.Parent.length) : qd0 g s o = some (decide (s ∈ panc g.Parent o)) := by
 unfold qd0 panc; rw [qh6 0 h0 h1]; refine Ok.eq (Ok.bind (Ok.some ?_)); have hd := hw.down h0 h1; refine jh7 (fun p : Int => inS g.Parent.length p /\ ∃ pre, anc g.Parent (g.Parent.getD o.toNat 0) = pre ++ anc g.Parent p /\ s ∉ pre) (fun p => (p + 1).toNat) ?_ ⟨hd, [], by simp, by simp⟩ (by
  simp only [rounds]; rcases hd with hd | hd <;> omega)
 rintro rec p ⟨hi, pre, he, hnp⟩ hr; unfold qo0; rcases hi with rfl | hi
 . rw [if_neg (by simp)]; rw [q6t, List.append_nil] at he; exact Ok.some (by rw [he, decide_eq_false hnp])
 .
  rw [if_pos (by simpa using hi.1)]; have hst := q63 hw hi.1 hi.2; refine jh5 (fun h2 => Ok.some ?_) (fun h2 => ?_)
  . rw [beq_iff_eq] at h2; rw [decide_eq_true (by rw [he, hst, h2]; simp)]
  . rw [beq_eq_false_iff_ne] at h2; rw [qh6 0 hi.1 hi.2]; refine Ok.bind (Ok.some ?_); have hdn := (hw.2 p hi.1 hi.2).1; exact hr _ ⟨hw.down hi.1 hi.2, pre ++ [p], by rw [he, hst]; simp, by rw [Xd, not_or, Xb]; exact ⟨hnp, Ne.symm h2⟩⟩ (by first | omega | (simp only; omega))
end
def exps (g : GGraph) (s x : Int) : Bool := !((ndI g x).Kind == 12 && decide ((ndI g x).Scope ∈ panc g.Parent s))
def leaves (g : GGraph) (s x : Int) : Bool := (ndI g x).Kind == 11 && (ndI g x).Scope == s
inductive Rch (g : GGraph) (s : Int) : Int -> Prop
 | seed (e : GEdge) (he : e ∈ g.Edges) (h : leaves g s e.From = true) : Rch g s e.To
 | step (e : GEdge) (he : e ∈ g.Edges) (h : Rch g s e.From) (hx : exps g s e.From = true) : Rch g s e.To
def atB (l : List Bool) (i : Int) : Bool := l.getD i.toNat false
theorem zv7 {l : List Bool} {i j : Int} (h0 : 0 <= i) (h1 : i < l.length) (hj : 0 <= j) : atB (l.set i.toNat true) j = if j = i then true else atB l j := by
 unfold atB; rw [Xa, List.getElem?_set]
 by_cases h : j = i
 . subst h; rw [if_pos rfl, if_pos (by omega), if_pos rfl]; rfl
 . rw [if_neg (by omega), if_neg h, Xa]
def cf (l : List Bool) : Nat := (l.filter fun b => !b).length
theorem j2p : ∀ {l : List Bool} {i : Nat}, l[i]? = some false -> cf (l.set i true) + 1 = cf l
 | [], i, h => by simp at h
 | b :: l, 0, h => by
  simp only [List.getElem?_cons_zero, Option.some.injEq] at h; subst h; simp [cf]
 | b :: l, i + 1, h => by
  have := j2p (l := l) (i := i) (by simpa using h); unfold cf at this ⊢
  cases b <;> simp only [List.set_cons_succ, List.filter_cons, Bool.not_false, Bool.not_true, if_true, Bool.false_eq_true, if_false, Xm] <;> omega
def Sub (a b : List Bool) : Prop := a.length = b.length /\ ∀ i : Int, 0 <= i -> atB a i = true -> atB b i = true
theorem Sub.refl (a : List Bool) : Sub a a := ⟨rfl, fun _ _ h => h⟩
theorem Sub.trans {a b c : List Bool} (h : Sub a b) (h' : Sub b c) : Sub a c := ⟨h.1.trans h'.1, fun i hi ha => h'.2 i hi (h.2 i hi ha)⟩
theorem Sub.set {l : List Bool} {i : Int} (h0 : 0 <= i) (h1 : i < l.length) : Sub l (l.set i.toNat true) := ⟨by simp, fun j hj ha => by
 rw [zv7 h0 h1 hj]; split
 . rfl
 . exact ha⟩
theorem Sub.cons {x y : Bool} {a b : List Bool} (h : Sub (x :: a) (y :: b)) : (x = true -> y = true) /\ Sub a b := by
 refine ⟨fun hx => ?_, by simpa using h.1, fun i hi ha => ?_⟩
 .
  have := h.2 0 (by omega) (by simpa [atB] using hx)
  simpa [atB] using this
 .
  have := h.2 (i + 1) (by omega) (by
   unfold atB at ha ⊢; rw [show (i + 1).toNat = i.toNat + 1 by omega]
   simpa using ha)
  unfold atB at this ⊢; rw [show (i + 1).toNat = i.toNat + 1 by omega] at this
  simpa using this
theorem Sub.cf : ∀ {a b : List Bool}, Sub a b -> VA.cf b <= VA.cf a /\ (VA.cf b = VA.cf a -> a = b)
 | [], [], _ => ⟨Nat.le_refl _, fun _ => rfl⟩
 | [], _ :: _, h => by have := h.1; simp at this
 | _ :: _, [], h => by have := h.1; simp at this
 | x :: a, y :: b, h => by
  obtain ⟨h1, h2⟩ := h.cons; have h3 := h2.cf; have hx : ∀ (z : Bool) (l : List Bool), VA.cf (z :: l) = (if z then 0 else 1) + VA.cf l := fun z l => by cases z <;> simp [VA.cf]; omega
  rw [hx, hx]
  cases x <;> cases y <;> simp at h1 ⊢
  . exact ⟨h3.1, fun hh => h3.2 hh⟩
  . have := h3.1; omega
  . exact ⟨h3.1, fun hh => h3.2 hh⟩
section
variable {g : GGraph} (hw : WP g.Parent g.Parent.length) (h8 : g.Parent.length <= 8) (hN : ∀ n < g.Nodes.length, q82 g n = 0) (hE : AllE g) (hl : g.Nodes.length < 1000000) (hEl : g.Edges.length < 1000000) {s : Int} (hs0 : 0 <= s) (hs1 : s < g.Parent.length)
def New (g : GGraph) (s : Int) (a b : List Bool) : Prop := ∀ e ∈ g.Edges, atB b e.From = true -> atB a e.From = false -> exps g s e.From = true -> atB b e.To = true
include hw h8 hN hE hl hEl hs0 hs1
theorem zj8 : ∀ (d : Nat) (from_ : Int) (a : List Bool), inG g from_ -> a.length = g.Nodes.length -> cf a < d -> (∀ i, 0 <= i -> atB a i = true -> Rch g s i) -> (∀ e ∈ g.Edges, e.From = from_ -> Rch g s e.To) ->
  Ok (q13 d from_ g a s) fun r => r.1 = g /\ r.2.2 = s /\ Sub a r.2.1 /\ New g s a r.2.1 /\ (∀ e ∈ g.Edges, e.From = from_ -> atB r.2.1 e.To = true) /\ ∀ i, 0 <= i -> atB r.2.1 i = true -> Rch g s i
 | 0, _, _, _, _, hd, _, _ => by omega
 | d + 1, from_, a, hf, hal, hd, hso, hfr => by
  have ih := zj8 d
  show Ok (q2s (q13 d) from_ g a s) _
  unfold q2s; refine eachG (l := g.Edges) (by omega) (fun i (b : List Bool) => (i, g, s, b)) (fun p => p.1) (fun _ _ => rfl) (fun i b => Sub a b /\ New g s a b /\ (∀ e ∈ g.Edges.take i, e.From = from_ -> atB b e.To = true) /\ ∀ i, 0 <= i -> atB b i = true -> Rch g s i) 0 (fun rec i hi b _ hI hr => ?_) (fun rec b hI => ?_) ⟨Sub.refl a, (by intro e _ h1 h2; rw [h1] at h2; cases h2), by simp, hso⟩ (Xl _)
  .
   obtain ⟨I1, I2, I3, I4⟩ := hI; unfold q3x; dsimp only; rw [if_pos (by simpa using hi)]; refine Ok.bind (jh6 hi ?_); have hm : g.Edges[i] ∈ g.Edges := List.getElem_mem hi
   generalize hge : g.Edges[i] = e at hm
   have hea := hE.at hm; have hbl : b.length = g.Nodes.length := by rw [<- I1.1, hal]
   have htk : g.Edges.take (i + 1) = g.Edges.take i ++ [e] := by rw [List.take_succ_eq_append_getElem hi, hge]
   rw [iw hi (by omega)]; refine jh5 (fun h1 => ?_) (fun h1 => ?_)
   .
    rw [beq_iff_eq] at h1; have hrt : Rch g s e.To := hfr e hm h1; refine jh4 (Ok.idx' hea.2.1.1 (by rw [hbl]; exact hea.2.1.2) (Q := fun x => x = atB b e.To) fun x hx => getD_some hx) ?_; rintro x rfl; refine jh5 (fun h2 => ?_) (fun h2 => ?_)
    .
     refine hr b ⟨I1, I2, fun x hx hxf => ?_, I4⟩; rw [htk, Xd, Xb] at hx; rcases hx with hx | rfl
     . exact I3 x hx hxf
     . exact h2
    .
     rw [zm4 hea.2.1]; refine Ok.bind (Ok.some ?_); have hti : e.To < b.length := by rw [hbl]; exact hea.2.1.2
     have hsb : Sub b (b.set e.To.toNat true) := Sub.set hea.2.1.1 hti; have hset : ∀ j, 0 <= j -> atB (b.set e.To.toNat true) j = if j = e.To then true else atB b j := fun j hj => zv7 hea.2.1.1 hti hj; have hget : b[e.To.toNat]? = some false := by
      unfold atB at h2; rw [Xa] at h2; have hlt : e.To.toNat < b.length := by have := hea.2.1.1; omega
      rw [List.getElem?_eq_getElem hlt] at h2 ⊢
      simpa using h2
     have hcf := j2p hget; have hcfa := I1.cf.1; have hso' : ∀ j, 0 <= j -> atB (b.set e.To.toNat true) j = true -> Rch g s j := fun j hj hb => by
      rw [hset j hj] at hb
      split at hb
      . rename_i hje; rw [hje]; exact hrt
      . exact I4 j hj hb
     -- it is told on
     have hgo : exps g s e.To = true -> Ok (q9 (q13 d e.To g (List.set b (Int.toNat e.To) true) s) (fun (v_8 : GGraph × (List Bool) × Int) => rec (((i + 1 : Nat) : Int), v_8.1, v_8.2.2, v_8.2.1))) (fun r => r.1 = g /\ r.2.2 = s /\ Sub a r.2.1 /\ New g s a r.2.1 /\ (∀ e ∈ g.Edges, e.From = from_ -> atB r.2.1 e.To = true) /\ ∀ i, 0 <= i -> atB r.2.1 i = true -> Rch g s i) := fun hx => by
      refine jh4 (ih e.To (b.set e.To.toNat true) hea.2.1 (by simpa using hbl) (by omega) hso' (fun e' he' hef => .step e' he' (by rw [hef]; exact hrt) (by rw [hef]; exact hx))) ?_; rintro ⟨g', c, s'⟩ ⟨e1, e2, J1, J2, J3, J4⟩; dsimp only at e1 e2 J1 J2 J3 J4 ⊢; subst e1 e2; refine hr c ⟨I1.trans (hsb.trans J1), fun x hxm h3 h4 h5 => ?_, fun x hxm hxf => ?_, J4⟩
      .
       have hx0 := (hE.at hxm).1.1; have hxt := (hE.at hxm).2.1.1
       cases hbx : atB b x.From with
       | true => exact J1.2 _ hxt (hsb.2 _ hxt (I2 x hxm hbx h4 h5))
       | false =>
        by_cases hxe : x.From = e.To
        . exact J3 x hxm hxe
        . exact J2 x hxm h3 (by rw [hset _ hx0, if_neg hxe]; exact hbx) h5
      .
       rw [htk, Xd, Xb] at hxm; rcases hxm with hxm | rfl
       . have hxt := (hE.at (Xg hxm)).2.1.1; exact J1.2 _ hxt (hsb.2 _ hxt (I3 x hxm hxf))
       . refine J1.2 _ hea.2.1.1 ?_; rw [hset _ hea.2.1.1, if_pos rfl]
     refine jh5 (fun h3 => ?_) (fun h3 => ?_)
     .
      rw [j3i hw h8 hs0 hs1]; refine Ok.bind (Ok.some ?_); refine jh5 (fun h4 => ?_) (fun h4 => ?_)
      . exact hgo (by unfold exps; rw [h3, Bool.true_and]; exact h4)
      .
       have hnx : exps g s e.To = false := by unfold exps; rw [h3, Bool.true_and]; exact h4
       refine hr _ ⟨I1.trans hsb, fun x hxm h5 h6 h7 => ?_, fun x hxm hxf => ?_, hso'⟩
       .
        have hx0 := (hE.at hxm).1.1; have hxt := (hE.at hxm).2.1.1
        by_cases hxe : x.From = e.To
        . rw [hxe, hnx] at h7; cases h7
        . rw [hset _ hx0, if_neg hxe] at h5; exact hsb.2 _ hxt (I2 x hxm h5 h6 h7)
       .
        rw [htk, Xd, Xb] at hxm; rcases hxm with hxm | rfl
        . have hxt := (hE.at (Xg hxm)).2.1.1; exact hsb.2 _ hxt (I3 x hxm hxf)
        . rw [hset _ hea.2.1.1, if_pos rfl]
     . exact hgo (by unfold exps; rw [h3]; rfl)
   .
    rw [beq_eq_false_iff_ne] at h1; refine hr b ⟨I1, I2, fun x hx hxf => ?_, I4⟩; rw [htk, Xd, Xb] at hx; rcases hx with hx | rfl
    . exact I3 x hx hxf
    . exact absurd hxf h1
  . obtain ⟨I1, I2, I3, I4⟩ := hI; unfold q3x; dsimp only; rw [if_neg (by simp)]; rw [List.take_length] at I3; exact Ok.some ⟨rfl, rfl, I1, I2, I3, I4⟩
omit hw h8 hN hE hl hEl hs0 hs1 in
theorem complete {a : List Bool} (h1 : ∀ e ∈ g.Edges, leaves g s e.From = true -> atB a e.To = true) (h2 : ∀ e ∈ g.Edges, atB a e.From = true -> exps g s e.From = true -> atB a e.To = true) : ∀ x, Rch g s x -> atB a x = true := by
 intro x hx
 induction hx with
 | seed e he h => exact h1 e he h
 | step e he h hx ih => exact h2 e he ih hx
omit hw h8 hN hE hl hEl hs0 hs1 in
theorem zv8 (n : Nat) (i : Int) : atB (List.replicate n false) i = false := by
 unfold atB; rw [Xa, List.getElem?_replicate]
 split <;> rfl
open Classical in
theorem j5c {n : Nat} (hn : n < g.Nodes.length) (hns : (nd g n).Scope = s) : qd6 g n = some (decide ((nd g n).Kind = 10 /\ Rch g s n)) := by
 unfold qd6; refine Ok.eq (Ok.bind (jh6 hn ?_)); rw [qc0 hn, hns]; refine jh5 (fun h1 => Ok.some ?_) (fun h1 => ?_)
 .
  rw [Xk, beq_eq_false_iff_ne] at h1
  symm; rw [decide_eq_false_iff_not]; exact fun hh => h1 hh.1
 rw [Xi, beq_iff_eq] at h1; refine Ok.guard (by omega) ?_; refine eachG (l := g.Nodes) (by omega) (fun i (b : List Bool) => (i, s, b, g)) (fun p => p.1) (fun _ _ => rfl) (fun i b => b.length = g.Nodes.length /\ (∀ e ∈ g.Edges, e.From < i -> leaves g s e.From = true -> atB b e.To = true) /\ (∀ e ∈ g.Edges, atB b e.From = true -> exps g s e.From = true -> atB b e.To = true) /\ ∀ i, 0 <= i -> atB b i = true -> Rch g s i) 0 (fun rec i hi b _ hI hr => ?_) (fun rec b hI => ?_) ⟨by simp, fun e he h2 => by have := (hE.at he).1.1; omega, (fun e _ h2 => absurd h2 (by rw [zv8]; simp)), (fun i _ h2 => absurd h2 (by rw [zv8]; simp))⟩ (Xl _)
 .
  obtain ⟨I1, I2, I3, I4⟩ := hI; unfold qb0; dsimp only; rw [if_pos (by simpa using hi)]; refine Ok.bind (jh6 hi ?_); rw [qc0 hi, iw hi (by omega)]; have hii : inG g (i : Int) := ⟨by omega, by omega⟩; have hlv : leaves g s (i : Int) = ((nd g i).Kind == 11 && (nd g i).Scope == s) := rfl; rw [<- hlv]; refine jh5 (fun h2 => ?_) (fun h2 => ?_)
  .
   have hcf : cf b < rounds := by
    have : cf b <= b.length := List.length_filter_le _ _; simp only [rounds]; omega
   refine jh4 (zj8 hw h8 hN hE hl hEl hs0 hs1 rounds (i : Int) b hii I1 hcf I4 (fun e he hef => .seed e he (by rw [hef]; exact h2))) ?_; rintro ⟨g', c, s'⟩ ⟨e1, e2, J1, J2, J3, J4⟩; dsimp only at e1 e2 J1 J2 J3 J4 ⊢; subst e1 e2; refine hr c ⟨by rw [<- J1.1]; exact I1, fun e he h3 h4 => ?_, fun e he h3 h4 => ?_, J4⟩
   .
    have het := (hE.at he).2.1.1; rcases Xe (show e.From <= i by omega) with h5 | h5
    . exact J1.2 _ het (I2 e he h5 h4)
    . exact J3 e he h5
   .
    have het := (hE.at he).2.1.1
    cases hb : atB b e.From with
    | true => exact J1.2 _ het (I3 e he hb h4)
    | false => exact J2 e he h3 hb h4
  .
   refine hr b ⟨I1, fun e he h3 h4 => ?_, I3, I4⟩; rcases Xe (show e.From <= i by omega) with h5 | h5
   . exact I2 e he h5 h4
   . rw [h5, h2] at h4; cases h4
 . obtain ⟨I1, I2, I3, I4⟩ := hI; unfold qb0; dsimp only; rw [if_neg (by simp)]; refine jh4 (Ok.idx' (i := (n : Int)) (l := b) (by omega) (by omega) (Q := fun x => x = atB b n) fun x hx => getD_some hx) ?_; rintro x rfl; refine Ok.some ?_; rw [Bool.eq_iff_iff, decide_eq_true_eq]; exact ⟨fun h => ⟨h1, I4 n (by omega) h⟩, fun h => complete (fun e he hlv => I2 e he (hE.at he).1.2 hlv) I3 _ h.2⟩
end
end VA
end Go.Proofs.YteibkihbdgphnaaGreat
