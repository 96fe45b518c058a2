/-
  The law in plain words: what its plain function gives is true. No condition beyond those that each theorem names.
-/
import Derived.Test.YtbcbcdbkdljjlaaGreatWalkUT1
import Derived.Test.YtbcbcdbkdljjlaaGreatP09c
set_option linter.unusedSimpArgs false
set_option linter.unusedVariables false
set_option linter.unusedSectionVars false
namespace Go.Proofs.YtbcbcdbkdljjlaaGreat
open Go Go.RowKit
namespace VA
theorem z8e {g : GGraph} {n : Nat} (h : q82 g n = 0) : inG g (ed g n).From ∧ inG g (ed g n).To ∧ (ndI g (ed g n).From).Kind ≠ 15 ∧ (0 ≤ (ed g n).Port ∧ (ed g n).Port < ports (ndI g (ed g n).To).Kind) ∧ qy3 g (ndI g (ed g n).From) = qx8 g (ndI g (ed g n).To) ∧
    ((ed g n).To ≤ (ed g n).From → (ndI g (ed g n).From).Kind = 12) ∧ (qr8 (ndI g (ed g n).To).Kind = true → (ed g n).Exchange = true) ∧ (g.Edges.take n).any (fun e => e.To == (ed g n).To && e.Port == (ed g n).Port) = false := by
  unfold q82 at h
  split at h
  · cases h
  split at h
  · cases h
  split at h
  · cases h
  split at h
  · cases h
  split at h
  · cases h
  split at h
  · cases h
  rename_i h1 h2 h3 h4 h5 h6
  have h1' := Decidable.byContradiction h1; rw [not_or] at h2; refine ⟨h1'.1, h1'.2, h2.1, Decidable.byContradiction h2.2, Decidable.byContradiction h3, fun hh => Decidable.byContradiction fun hk => h4 ⟨hh, hk⟩, fun hk => ?_, by simpa using h6⟩
  cases hx : (ed g n).Exchange
  · exact absurd ⟨hk, hx⟩ h5
  · rfl
def AllE (g : GGraph) : Prop := ∀ n < g.Edges.length, q82 g n = 0
theorem zj9 {g : GGraph} {e : GEdge} (h : e ∈ g.Edges) : ∃ n, n < g.Edges.length ∧ ed g n = e := by
  obtain ⟨n, hn, rfl⟩ := List.mem_iff_getElem.1 h; exact ⟨n, hn, (z97 hn).symm⟩
theorem AllE.at {g : GGraph} (h : AllE g) {e : GEdge} (he : e ∈ g.Edges) : inG g e.From ∧ inG g e.To ∧ (ndI g e.From).Kind ≠ 15 ∧ (0 ≤ e.Port ∧ e.Port < ports (ndI g e.To).Kind) ∧ qy3 g (ndI g e.From) = qx8 g (ndI g e.To) ∧
    (e.To ≤ e.From → (ndI g e.From).Kind = 12) ∧ (qr8 (ndI g e.To).Kind = true → e.Exchange = true) := by
  obtain ⟨n, hn, rfl⟩ := zj9 he; have := z8e (h n hn); exact ⟨this.1, this.2.1, this.2.2.1, this.2.2.2.1, this.2.2.2.2.1, this.2.2.2.2.2.1, this.2.2.2.2.2.2.1⟩
def z8h (g : GGraph) (n : Nat) : Nat := (g.Edges.filter fun e => e.To == (n : Int)).length
def panc (P : List Int) (s : Int) : List Int := anc P (P.getD s.toNat 0)
section
variable {g : GGraph} (hw : WP g.Parent g.Parent.length) (h8 : g.Parent.length ≤ 8)
include hw h8
theorem z9b {s o : Int} (h0 : 0 ≤ o) (h1 : o < g.Parent.length) : q3x g s o = some (decide (s ∈ panc g.Parent o)) := by
  unfold q3x panc; rw [z0m hw h8 (.inr ⟨h0, h1⟩), qu3 hw h0 h1, List.reverse_cons]; refine Ok.eq (Ok.bind (Ok.some ?_)); have hle := z5p hw (hw.down h0 h1)
  generalize hA : (anc g.Parent (g.Parent.getD o.toNat 0)).reverse = A
  have hmem : s ∈ anc g.Parent (g.Parent.getD o.toNat 0) ↔ s ∈ A := by rw [← hA, List.mem_reverse]
  have hAl : A.length ≤ g.Parent.length := by rw [← hA, List.length_reverse]; exact hle
  rw [decide_eq_decide.2 hmem]; refine Ok.each1 (l := A) (by omega) (fun i => s ∉ A.take i) 0 (fun rec i hi _ hI hr => ?_) (fun rec hI => ?_) (by simp) (Nat.zero_le _)
  · unfold q2n
    rw [iw hi (by omega), if_pos (by simp; omega)]; refine Ok.bind (Ok.idxN (show i < (A ++ [o]).length by simp; omega) ?_); rw [List.getElem_append_left hi]; refine Ok.iteB (fun h2 => Ok.some ?_) (fun h2 => hr ?_)
    · rw [beq_iff_eq] at h2
      rw [decide_eq_true (by rw [← h2]; exact List.getElem_mem hi)]
    · rw [beq_eq_false_iff_ne] at h2
      rw [List.take_succ_eq_append_getElem hi, List.mem_append, not_or, List.mem_singleton]; exact ⟨hI, Ne.symm h2⟩
  · unfold q2n
    rw [wrap_i64 _ (by omega), if_neg (by simp)]; rw [List.take_length] at hI; exact Ok.some (by rw [decide_eq_false hI])
end
def exps (g : GGraph) (s x : Int) : Bool := !((ndI g x).Kind == 12 && decide ((ndI g x).Scope ∈ panc g.Parent s))
def leaves (g : GGraph) (s x : Int) : Bool := (ndI g x).Kind == 11 && (ndI g x).Scope == s
inductive Rch (g : GGraph) (s : Int) : Int → Prop
  | seed (e : GEdge) (he : e ∈ g.Edges) (h : leaves g s e.From = true) : Rch g s e.To
  | step (e : GEdge) (he : e ∈ g.Edges) (h : Rch g s e.From) (hx : exps g s e.From = true) : Rch g s e.To
def atB (l : List Bool) (i : Int) : Bool := l.getD i.toNat false
theorem z6z {l : List Bool} {i j : Int} (h0 : 0 ≤ i) (h1 : i < l.length) (hj : 0 ≤ j) : atB (l.set i.toNat true) j = if j = i then true else atB l j := by
  unfold atB; rw [List.getD_eq_getElem?_getD, List.getElem?_set]
  by_cases h : j = i
  · subst h; rw [if_pos rfl, if_pos (by omega), if_pos rfl]; rfl
  · rw [if_neg (by omega), if_neg h, List.getD_eq_getElem?_getD]
def cf (l : List Bool) : Nat := (l.filter fun b => !b).length
def Sub (a b : List Bool) : Prop := a.length = b.length ∧ ∀ i : Int, 0 ≤ i → atB a i = true → atB b i = true
theorem Sub.refl (a : List Bool) : Sub a a := ⟨rfl, fun _ _ h => h⟩
theorem Sub.trans {a b c : List Bool} (h : Sub a b) (h' : Sub b c) : Sub a c := ⟨h.1.trans h'.1, fun i hi ha => h'.2 i hi (h.2 i hi ha)⟩
theorem Sub.set {l : List Bool} {i : Int} (h0 : 0 ≤ i) (h1 : i < l.length) : Sub l (l.set i.toNat true) := ⟨by simp, fun j hj ha => by
  rw [z6z h0 h1 hj]; split
  · rfl
  · exact ha⟩
theorem Sub.cons {x y : Bool} {a b : List Bool} (h : Sub (x :: a) (y :: b)) : (x = true → y = true) ∧ Sub a b := by
  refine ⟨fun hx => ?_, by simpa using h.1, fun i hi ha => ?_⟩
  · have := h.2 0 (by omega) (by simpa [atB] using hx)
    simpa [atB] using this
  · have := h.2 (i + 1) (by omega) (by
      unfold atB at ha ⊢; rw [show (i + 1).toNat = i.toNat + 1 by omega]
      simpa using ha)
    unfold atB at this ⊢; rw [show (i + 1).toNat = i.toNat + 1 by omega] at this
    simpa using this
theorem Sub.cf : ∀ {a b : List Bool}, Sub a b → VA.cf b ≤ VA.cf a ∧ (VA.cf b = VA.cf a → a = b)
  | [], [], _ => ⟨Nat.le_refl _, fun _ => rfl⟩
  | [], _ :: _, h => by have := h.1; simp at this
  | _ :: _, [], h => by have := h.1; simp at this
  | x :: a, y :: b, h => by
    obtain ⟨h1, h2⟩ := h.cons; have h3 := h2.cf; have hx : ∀ (z : Bool) (l : List Bool), VA.cf (z :: l) = (if z then 0 else 1) + VA.cf l := fun z l => by cases z <;> simp [VA.cf]; omega
    rw [hx, hx]
    cases x <;> cases y <;> simp at h1 ⊢
    · exact ⟨h3.1, fun hh => h3.2 hh⟩
    · have := h3.1; omega
    · exact ⟨h3.1, fun hh => h3.2 hh⟩
section
variable {g : GGraph} (hw : WP g.Parent g.Parent.length) (h8 : g.Parent.length ≤ 8) (hN : ∀ n < g.Nodes.length, q3q g n = 0) (hE : AllE g) (hl : g.Nodes.length < 1000000) (hEl : g.Edges.length < 1000000) {s : Int} (hs0 : 0 ≤ s) (hs1 : s < g.Parent.length)
def New (g : GGraph) (s : Int) (a b : List Bool) : Prop := ∀ e ∈ g.Edges, atB b e.From = true → atB a e.From = false → exps g s e.From = true → atB b e.To = true
include hw h8 hN hE hl hEl hs0 hs1
omit hw h8 hN hE hl hEl hs0 hs1 in
theorem complete {a : List Bool} (h1 : ∀ e ∈ g.Edges, leaves g s e.From = true → atB a e.To = true) (h2 : ∀ e ∈ g.Edges, atB a e.From = true → exps g s e.From = true → atB a e.To = true) : ∀ x, Rch g s x → atB a x = true := by
  intro x hx
  induction hx with
  | seed e he h => exact h1 e he h
  | step e he h hx ih => exact h2 e he ih hx
omit hw h8 hN hE hl hEl hs0 hs1 in
theorem zg9 (n : Nat) (i : Int) : atB (List.replicate n false) i = false := by
  unfold atB; rw [List.getD_eq_getElem?_getD, List.getElem?_replicate]
  split <;> rfl
theorem zc4 : Ok (q2t g s) fun b => b.length = g.Nodes.length ∧ ∀ i, 0 ≤ i → (atB b i = true ↔ Rch g s i) := by
  unfold q2t; refine Ok.guard (by omega) ?_
  let Cl : List Bool → Prop := fun b => (∀ e ∈ g.Edges, leaves g s e.From = true → atB b e.To = true) ∧ ∀ e ∈ g.Edges, atB b e.From = true → exps g s e.From = true → atB b e.To = true
  have hcl : ∀ b, Cl b → ∀ x, Rch g s x → atB b x = true := fun b h => complete h.1 h.2; have hlen : (List.range (g.Nodes.length + 1)).length = g.Nodes.length + 1 := List.length_range; refine eachG (l := List.range (g.Nodes.length + 1)) (by omega) (fun i (b : List Bool) => (i, b)) (fun p => p.1) (fun _ _ => rfl) (fun i b => b.length = g.Nodes.length ∧ (∀ i, 0 ≤ i → atB b i = true → Rch g s i) ∧ (Cl b ∨ cf b + i ≤ g.Nodes.length)) 0 (fun rec i hi b _ hI hr => ?_) (fun rec b hI => ?_) ⟨by simp, (fun i _ h2 => absurd h2 (by rw [zg9]; simp)), .inr (by
    have : cf (List.replicate g.Nodes.length false) ≤ (List.replicate g.Nodes.length false).length := List.length_filter_le _ _
    simpa using this)⟩ (Nat.zero_le _)
  · obtain ⟨I1, I2, I3⟩ := hI
    unfold q27; dsimp only; rw [if_pos (by simp only [decide_eq_true_eq]; omega)]; refine eachG (l := g.Edges) (by omega) (fun j (c : List Bool) => (j, c)) (fun p => p.1) (fun _ _ => rfl) (fun j c => Sub b c ∧ (∀ i, 0 ≤ i → atB c i = true → Rch g s i) ∧ ∀ e ∈ g.Edges.take j, (leaves g s e.From = true ∨ atB b e.From = true ∧ exps g s e.From = true) → atB c e.To = true) 0 (fun rec' j hj c _ hJ hr' => ?_) (fun rec' c hJ => ?_) ⟨Sub.refl b, I2, by simp⟩ (Nat.zero_le _)
    · obtain ⟨J1, J2, J3⟩ := hJ
      unfold q39; dsimp only; rw [if_pos (by simpa using hj)]; refine Ok.bind (Ok.idxN hj ?_); have hm : g.Edges[j] ∈ g.Edges := List.getElem_mem hj
      generalize hge : g.Edges[j] = e at hm
      have hea := hE.at hm; have hcl' : c.length = g.Nodes.length := by rw [← J1.1, I1]
      have htk : g.Edges.take (j + 1) = g.Edges.take j ++ [e] := by rw [List.take_succ_eq_append_getElem hj, hge]
      have hti : e.To < c.length := by rw [hcl']; exact hea.2.1.2
      have hset : ∀ k, 0 ≤ k → atB (c.set e.To.toNat true) k = if k = e.To then true else atB c k := fun k hk => z6z hea.2.1.1 hti hk; rw [iw hj (by omega), z13 hea.1]; refine Ok.bind (Ok.some ?_); have hlv : leaves g s e.From = ((ndI g e.From).Kind == 11 && (ndI g e.From).Scope == s) := rfl; rw [← hlv]; have hidx : ∀ {Q : Bool → Prop} {k : Int}, inG g k → Q (atB c k) → Ok (idx c k) Q := fun {Q k} hk hq => Ok.idx' hk.1 (by rw [hcl']; exact hk.2) fun x hx => by rw [show x = atB c k from getD_some hx]; exact hq
      have hyes : Rch g s e.To → Ok (rec' (((j + 1 : Nat) : Int), List.set c (Int.toNat e.To) true)) (fun r => r.length = g.Nodes.length ∧ ∀ i, 0 ≤ i → (atB r i = true ↔ Rch g s i)) := fun hrt => by
        refine hr' _ ⟨J1.trans (Sub.set hea.2.1.1 hti), fun k hk h => ?_, fun x hx hxc => ?_⟩
        · rw [hset k hk] at h
          split at h
          · rename_i hke; rw [hke]; exact hrt
          · exact J2 k hk h
        · rw [htk, List.mem_append, List.mem_singleton] at hx
          rcases hx with hx | rfl
          · exact (Sub.set hea.2.1.1 hti).2 _ (hE.at (List.mem_of_mem_take hx)).2.1.1 (J3 x hx hxc)
          · rw [hset _ hea.2.1.1, if_pos rfl]
      have hno : ¬ (leaves g s e.From = true ∨ atB b e.From = true ∧ exps g s e.From = true) → Ok (rec' (((j + 1 : Nat) : Int), c)) (fun r => r.length = g.Nodes.length ∧ ∀ i, 0 ≤ i → (atB r i = true ↔ Rch g s i)) := fun hnc => by
        refine hr' _ ⟨J1, J2, fun x hx hxc => ?_⟩; rw [htk, List.mem_append, List.mem_singleton] at hx; rcases hx with hx | rfl
        · exact J3 x hx hxc
        · exact absurd hxc hnc
      refine Ok.iteB (fun h1 => Ok.bind (hidx hea.2.1 (hyes (.seed e hm h1)))) (fun h1 => ?_); refine Ok.bind (hidx hea.1 ?_); refine Ok.iteB (fun h2 => ?_) (fun h2 => ?_)
      · refine Ok.iteB (fun h3 => ?_) (fun h3 => ?_)
        · rw [z9b hw h8 hs0 hs1]
          refine Ok.bind (Ok.some ?_); refine Ok.iteB (fun h4 => ?_) (fun h4 => ?_)
          · exact Ok.bind (hidx hea.2.1 (hyes (.step e hm (J2 _ hea.1.1 h2) (by unfold exps; rw [h3, Bool.true_and]; exact h4))))
          · refine hno ?_
            rintro (h5 | h5)
            · rw [h1] at h5; cases h5
            · have h6 := h5.2
              unfold exps at h6; rw [h3, Bool.true_and, h4] at h6; cases h6
        · exact Ok.bind (hidx hea.2.1 (hyes (.step e hm (J2 _ hea.1.1 h2) (by unfold exps; rw [h3]; rfl))))
      · refine hno ?_
        rintro (h5 | h5)
        · rw [h1] at h5; cases h5
        · have := J1.2 _ hea.1.1 h5.1
          rw [h2] at this; cases this
    · obtain ⟨J1, J2, J3⟩ := hJ
      unfold q39; dsimp only; rw [if_neg (by simp)]; rw [List.take_length] at J3; rw [iw hi (by omega)]; refine hr c ⟨by rw [← J1.1]; exact I1, J2, ?_⟩; rcases I3 with I3 | I3
      · left
        have hall := hcl b I3; exact ⟨fun e he h => J1.2 _ (hE.at he).2.1.1 (hall _ (.seed e he h)), fun e he h hx => J1.2 _ (hE.at he).2.1.1 (hall _ (.step e he (J2 _ (hE.at he).1.1 h) hx))⟩
      · obtain ⟨g1, g2⟩ := J1.cf
        rcases Nat.lt_or_ge (cf c) (cf b) with h | h
        · right; omega
        · left
          have hbc := g2 (by omega); subst hbc; exact ⟨fun e he h => J3 e he (.inl h), fun e he h hx => J3 e he (.inr ⟨h, hx⟩)⟩
  · obtain ⟨I1, I2, I3⟩ := hI
    unfold q27; dsimp only; rw [hlen, if_neg (by simp; omega)]; refine Ok.some ⟨I1, fun i hi => ⟨I2 i hi, fun h => ?_⟩⟩; rcases I3 with I3 | I3
    · exact hcl b I3 i h
    · omega
end
end VA
end Go.Proofs.YtbcbcdbkdljjlaaGreat
