/-
  The law in plain words: what its plain function gives is true. No condition beyond those that each theorem names.
-/
import Derived.Test.YtocnabkanbifdaaGreatDoorWalkTB0
import Derived.Test.YtocnabkanbifdaaGreatDoorPl2
import Derived.Test.YtocnabkanbifdaaGreatDoorP08d
set_option linter.unusedSimpArgs false
set_option linter.unusedVariables false
set_option linter.unusedSectionVars false
namespace Go.Proofs.YtocnabkanbifdaaGreatDoor
open Go Go.RowKit
set_option linter.unusedSimpArgs false
set_option linter.unusedVariables false
/-! Which graphs can be put. -/
def low (n : Int) : Prop := 0 ≤ n ∧ n ≤ 2147483647
instance (n : Int) : Decidable (low n) := by unfold low; infer_instance
def lowI (i : GIns) : Prop := low i.Op
def lowN (x : GNode) : Prop := low x.Kind ∧ low x.Scope ∧ x.Prog.length ≤ 64 ∧ ∀ i ∈ x.Prog, lowI i
def lowE (e : GEdge) : Prop := low e.From ∧ low e.To ∧ low e.Port
def fitsG (g : GGraph) : Prop := (∃ ps bs, g.Parent = -1 :: ps ∧ g.Bound = 0 :: bs ∧ ps.length = bs.length ∧ ps.length ≤ 7 ∧ (∀ p ∈ ps, low p) ∧ (∀ b ∈ bs, low b)) ∧
 g.Nodes.length ≤ 32 ∧ g.Edges.length ≤ 64 ∧ (∀ x ∈ g.Nodes, lowN x) ∧ ∀ e ∈ g.Edges, lowE e
def hi (n : Int) : Bool := decide (n < 0) || decide (2147483647 < n)
theorem hi_low (n : Int) : hi n = false ↔ low n := by unfold hi low; simp
theorem anyhi_low {l : List Int} : l.any hi = false ↔ ∀ x ∈ l, low x := by
 rw [List.any_eq_false]
 constructor
 · intro h x hx; exact (hi_low x).1 (by simpa using h x hx)
 · intro h x hx; rw [(hi_low x).2 (h x hx)]; simp
theorem small_eq (l : List Int) (hl : l.length < 9223372036854775808) : f_graph_small l = some (!l.any hi) := by
 have h : f_slices_ContainsFunc_int l (fun x0_ => f_graph_small_1 x0_) = some (l.any hi) := by
  show gContainsFunc _ _ = _
  exact gContainsFunc_eq hl (fun x _ => rfl)
 unfold f_graph_small
 rw [h]; rfl
theorem small_ok (l : List Int) (hl : l.length < 9223372036854775808) : Ok (f_graph_small l) (fun r => r = true ↔ ∀ x ∈ l, low x) := by
 refine Ok.of_eq (small_eq l hl) ?_
 rw [Bool.not_eq_true', anyhi_low]
theorem insC_eq (l : List GIns) (hl : l.length < 9223372036854775808) : f_slices_ContainsFunc_Ins l (fun x0_ => f_graph_fits_1 x0_) = some (l.any fun i => hi i.Op) := by
 show gContainsFunc _ _ = _
 refine gContainsFunc_eq hl (fun x _ => ?_)
 unfold f_graph_fits_1
 rw [small_eq _ (by simp)]
 simp [bindO]
theorem edgeC_eq (l : List GEdge) (hl : l.length < 9223372036854775808) : f_slices_ContainsFunc_Edge l (fun x0_ => f_graph_fits_2 x0_) = some (l.any fun e => hi e.From || (hi e.To || hi e.Port)) := by
 show gContainsFunc _ _ = _
 refine gContainsFunc_eq hl (fun x _ => ?_)
 unfold f_graph_fits_2
 rw [small_eq _ (by simp)]
 simp [bindO]
theorem fits_ok (g : GGraph) : Ok (f_graph_fits g) (fun r => r = true ↔ fitsG g) := by
 obtain ⟨P, B, N, E⟩ := g
 unfold f_graph_fits
 simp only [fitsG]
 refine Ok.iteB (fun hc => Ok.some ?_) (fun hc => ?_)
 ·
  refine iff_of_false (by simp) ?_
  rintro ⟨⟨ps, bs, rfl, rfl, h3, h4, _⟩, _⟩
  simp at hc; omega
 simp at hc
 obtain ⟨⟨h1, h2⟩, h3⟩ := hc
 obtain ⟨p, ps, rfl⟩ : ∃ p ps, P = p :: ps := by
  cases P with
  | nil => simp at h1
  | cons p ps => exact ⟨p, ps, rfl⟩
 obtain ⟨b, bs, rfl⟩ : ∃ b bs, B = b :: bs := by
  cases B with
  | nil => simp at h3; omega
  | cons b bs => exact ⟨b, bs, rfl⟩
 simp only [List.length_cons] at h1 h2 h3
 refine Ok.bind (Ok.idx (by omega) (by simp only [List.length_cons]; omega) ?_)
 refine Ok.iteB (fun hp => ?_) (fun hp => Ok.some (iff_of_false (by simp) ?_))
 ·
  obtain rfl : p = -1 := by simpa using hp
  refine Ok.bind (Ok.idx (by omega) (by simp only [List.length_cons]; omega) ?_)
  refine Ok.iteB (fun hb => ?_) (fun hb => Ok.some (iff_of_false (by simp) ?_))
  ·
   obtain rfl : b = 0 := by simpa using hb
   refine Ok.guard (by simp only [List.length_cons]; omega) ?_
   rw [List.take_length, show List.drop (Int.toNat 1) ((-1 : Int) :: ps) = ps from rfl]
   refine Ok.bind2 (small_ok ps (by omega)) fun v hv => ?_
   refine Ok.iteB (fun hc => ?_) (fun hc => Ok.some (iff_of_false (by simp) ?_))
   ·
    have hps := hv.1 hc
    refine Ok.bind2 (small_ok (0 :: bs) (by simp only [List.length_cons]; omega)) fun v2 hv2 => ?_
    refine Ok.iteB (fun hc => Ok.some (iff_of_false (by simp) ?_)) (fun hc => ?_)
    ·
     rintro ⟨⟨ps', bs', h5, h6, _, _, _, h7⟩, _⟩
     cases h6
     have := hv2.2 (fun x hx => by
      rcases List.mem_cons.1 hx with rfl | hx
      · unfold low; omega
      · exact h7 x hx)
     rw [this] at hc; cases hc
    ·
     have hbs : ∀ x ∈ bs, low x := fun x hx => hv2.1 (by simpa using hc) x (by simp [hx])
     refine Ok.iteB (fun hc => Ok.some (iff_of_false (by simp) ?_)) (fun hc => ?_)
     ·
      rintro ⟨_, h8, h9, _⟩
      simp at hc; omega
     simp at hc
     have key : ((∃ ps_1 bs_1, (-1 : Int) :: ps = -1 :: ps_1 ∧ (0 : Int) :: bs = 0 :: bs_1 ∧ ps_1.length = bs_1.length ∧ ps_1.length ≤ 7 ∧ (∀ p ∈ ps_1, low p) ∧ ∀ b ∈ bs_1, low b) ∧ N.length ≤ 32 ∧ E.length ≤ 64 ∧ (∀ x ∈ N, lowN x) ∧ ∀ e ∈ E, lowE e) ↔ ((∀ x ∈ N, lowN x) ∧ ∀ e ∈ E, lowE e) := by
      constructor
      · rintro ⟨_, _, _, h⟩; exact h
      · intro h; exact ⟨⟨ps, bs, rfl, rfl, by omega, by omega, hps, hbs⟩, by omega, by omega, h⟩
     rw [key]
     refine Ok.each1 (l := N) (by omega) (fun i => ∀ x ∈ N.take i, lowN x) 0 (fun rec i hi _ hI hr => ?_) (fun rec hI => ?_) (by simp) (by omega)
     ·
      unfold f_graph_fits_B2
      rw [if_pos (by simp; omega)]
      refine Ok.bind (Ok.idxN hi ?_)
      have hmem : N[i] ∈ N := List.getElem_mem hi
      refine Ok.bind2 (small_ok _ (by simp)) fun v3 hv3 => ?_
      refine Ok.iteB (fun hc3 => Ok.some (iff_of_false (by simp) ?_)) (fun hc3 => ?_)
      ·
       rintro ⟨hN, _⟩
       have := hN _ hmem
       have := hv3.2 (by simp; exact ⟨this.1, this.2.1⟩)
       rw [this] at hc3
       simp at hc3
       have := (hN _ hmem).2.2.1
       omega
      ·
       simp at hc3
       have h10 := hv3.1 hc3.1
       rw [insC_eq N[i].Prog (by omega)]
       refine Ok.bind (Ok.some (Ok.iteB (fun hc4 => Ok.some (iff_of_false (by simp) ?_)) (fun hc4 => ?_)))
       ·
        rintro ⟨hN, _⟩
        obtain ⟨x, hx, hh⟩ := List.any_eq_true.1 hc4
        have := (hi_low _).2 ((hN _ hmem).2.2.2 x hx)
        rw [this] at hh; cases hh
       ·
        rw [wrap_succ (by omega)]
        refine hr ((all_take_succ hi).2 ⟨hI, h10 _ (by simp), h10 _ (by simp), by omega, fun x hx => ?_⟩)
        have := List.any_eq_false.1 hc4 x hx
        exact (hi_low _).1 (by simpa using this)
     ·
      rw [List.take_length] at hI
      unfold f_graph_fits_B2
      rw [if_neg (by simp)]
      unfold f_graph_fits_J1
      rw [edgeC_eq _ (by simp only; omega)]
      refine Ok.bind (Ok.some (Ok.some ?_))
      rw [Bool.not_eq_true', List.any_eq_false]
      constructor
      ·
       intro h
       refine ⟨hI, fun e he => ?_⟩
       have := h e he
       simp only [Bool.or_eq_true, not_or, Bool.not_eq_true] at this
       exact ⟨(hi_low _).1 this.1, (hi_low _).1 this.2.1, (hi_low _).1 this.2.2⟩
      ·
       rintro ⟨_, h⟩ e he
       obtain ⟨h1, h2, h3⟩ := h e he
       rw [(hi_low _).2 h1, (hi_low _).2 h2, (hi_low _).2 h3]; simp
   ·
    rintro ⟨⟨ps', bs', h5, h6, _, _, h7, _⟩, _⟩
    cases h5
    have := hv.2 h7
    rw [this] at hc; cases hc
  ·
   rintro ⟨⟨ps', bs', h5, h6, _⟩, _⟩
   cases h6
   simp at hb
 ·
  rintro ⟨⟨ps', bs', h5, _⟩, _⟩
  cases h5
  simp at hp
theorem low_eq (n : Int) : f_backwashref08_low n = some (decide (low n)) := by
 unfold f_backwashref08_low low
 congr 1
 by_cases h1 : 0 ≤ n <;> by_cases h2 : n ≤ 2147483647 <;> simp [h1, h2]
theorem Ok.low {R : Type} {n : Int} {k : Bool → Option R} {Q : R → Prop} (h1 : Go.Proofs.YtocnabkanbifdaaGreatDoor.low n → Ok (k true) Q) (h2 : ¬ Go.Proofs.YtocnabkanbifdaaGreatDoor.low n → Ok (k false) Q) : Ok (bindO (f_backwashref08_low n) k) Q := by
 rw [low_eq]
 refine Ok.bind (Ok.some ?_)
 by_cases h : Go.Proofs.YtocnabkanbifdaaGreatDoor.low n
 · simp only [h, decide_true]; exact h1 h
 · simp only [h, decide_false]; exact h2 h
theorem Ok.no {R : Type} {x : R} {Q : R → Prop} (h : Q x) : Ok (Option.some x) Q := Ok.some h
end Go.Proofs.YtocnabkanbifdaaGreatDoor
