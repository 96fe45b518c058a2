/-
  The law in plain words: what its plain function gives is true. No condition beyond those that each theorem names.
-/
import Derived.Test.YthpahhhdapdcpaaP18h
set_option linter.unusedSimpArgs false
set_option linter.unusedVariables false
namespace Go.Proofs.Ythpahhhdapdcpaa
open Go Go.RowKit BG TS
namespace CE
/-! The statement CellSettles. -/
theorem dist_at {l : List Came} (h : Dist l) {e : Came} (he : e ∈ l) : at0 l e.time = e.in_.a0 := by
  obtain ⟨A, B, rfl⟩ := List.append_of_mem he
  have h1 := List.pairwise_append.1 h
  have hf : A.find? (fun y => decide (y.time = e.time)) = none := find_no fun y hy => h1.2.2 y hy e (by simp)
  unfold at0
  rw [List.find?_append, hf, List.find?_cons, decide_eq_true rfl]; rfl
theorem Inv.smallE {x : GNode} {K L : Nat} {c : List GSlot} {inn sent : List Came} (h : Inv x K L c inn sent) (hK : K ≤ 200) : ∀ e ∈ inn, Small e.in_.a0 := fun e he => by
  have h1 := dist_at h.dist he
  rw [h.in0] at h1
  rw [← h1]
  obtain ⟨w0, _, _, s0, _⟩ := h.own e.time
  exact ⟨w0, by have := s0.len; omega, by have := s0.big; omega⟩
/-- What the operator makes of all that came at a timestamp. -/
theorem Inv.makes {x : GNode} {K L : Nat} {c : List GSlot} {inn sent : List Came} (h : Inv x K L c inn sent) (hK : K ≤ 200) (t : GTime) {ps : List GItem} (h1 : Rt ps) (h2 : ∀ z, cnt ps z = Psum c t z) {v : List GItem × Bool}
    (hv : f_ops_Apply x [(look c t).In.a0, if x.Kind = 14 then ps else (look c t).In.a1] = some v) : f_backwashlaw15_makes x inn t = some v :=
  makes_ok h.dist (by have := h.innL; omega) (h.smallE hK) h1 (fun z => by rw [h2, h.sum]) (by rw [h.in0, h.in1]; exact hv)
theorem Inv.makes_tot {x : GNode} {K L : Nat} {c : List GSlot} {inn sent : List Came} (h : Inv x K L c inn sent) (hK : K ≤ 200) (t : GTime) : ∃ v, f_backwashlaw15_makes x inn t = some v := by
  obtain ⟨ps, f1, f2, f3, f4⟩ := h.past hK t
  obtain ⟨_, _, _, s0, s1⟩ := h.own t
  obtain ⟨v, hv, _⟩ := Apply_fact (x := x) (a := (look c t).In.a0) (b := if x.Kind = 14 then ps else (look c t).In.a1) (by have := s0.len; omega) (by
    split
    · exact f4
    · have := s1.len; omega)
  exact ⟨v, h.makes hK t f2 f3 hv⟩
theorem roomless_ok {x : GNode} {K L : Nat} {c : List GSlot} {inn sent : List Came} (h : Inv x K L c inn sent) (hK : K ≤ 200) (hf : Fails x c) : f_backwashlaw15_roomless x inn = some true := by
  obtain ⟨s, hs, ps, now, p1, p2, p3, p4⟩ := hf
  have hlook : look c s.Time = s := look_mem h.cl hs
  have hm := h.makes hK s.Time p1 p2 (v := (now, false)) (by rw [hlook]; exact p4)
  obtain ⟨e, he, ht⟩ := h.cov s hs
  have hl := h.innL
  refine Ok.eq ?_
  unfold f_backwashlaw15_roomless
  refine Ok.each1 (l := inn) (by omega) (fun i => e ∉ inn.take i) 0 (fun rec i hi _ hI hr => ?_) (fun rec hI => ?_) (by simp) (Nat.zero_le _)
  · unfold f_backwashlaw15_roomless_B1
    obtain ⟨v, hv⟩ := h.makes_tot hK inn[i].time
    refine Ok.iteB (fun _ => Ok.bind (Ok.idxN hi (Ok.bind (Ok.of_eq hv (Ok.iteB (fun _ => Ok.some rfl) (fun hx => ?_)))))) (fun hx => by simp only [decide_eq_false_iff_not] at hx; omega)
    rw [wrap_i64 ((i : Int) + 1) (by omega)]
    refine hr ?_
    rw [List.take_succ_eq_append_getElem hi]
    intro hmem
    rcases List.mem_append.1 hmem with hmem | hmem
    · exact hI hmem
    · rw [List.mem_singleton] at hmem
      rw [← hmem, ht, hm] at hv
      have := Option.some.inj hv
      rw [← this] at hx; simp at hx
  · rw [List.take_length] at hI
    exact absurd he hI
theorem final_ok {x : GNode} {K L : Nat} {c : List GSlot} {inn sent : List Came} (h : Inv x K L c inn sent) (hK : K ≤ 200) (hL : L < 900000) (hn : ∀ s ∈ c, s.Dirty = false) (w : List GSlot × List Came × Bool) (hw : w.1 = c) : Ok (loopK (f_backwashlaw15_CellSettles_B3 x w) rounds (inn, sent, 0)) (fun r => r = true) := by
  have hl := h.innL
  have hsz := h.sz hK
  have hlc := hsz.len
  have hcl : ∀ s ∈ c, lens 1000000 s := fun s hs => lens_le (by omega) (hsz.each s hs)
  refine Ok.eachG (l := inn) (by omega) (fun i (_ : Unit) => (inn, sent, i)) (fun q => q.2.2) (fun _ _ => rfl) (fun _ _ => True) 0 (fun rec i hi _ _ _ hr => ?_) (fun rec _ _ => ?_) (s0 := ()) trivial (Nat.zero_le _)
  · unfold f_backwashlaw15_CellSettles_B3
    simp only
    obtain ⟨ps, f1, f2, f3, f4⟩ := h.past hK inn[i].time
    have hd : (look c inn[i].time).Dirty = false := by
      rcases look_cases h.cl inn[i].time with ⟨e, _⟩ | ⟨e, _⟩
      · rw [e]; rfl
      · exact hn _ e
    have hm := h.makes hK inn[i].time f2 f3 (h.done _ ps f2 f3 f4 hd)
    obtain ⟨_, _, wf, _, _⟩ := h.own inn[i].time
    refine Ok.iteB (fun _ => Ok.bind (Ok.idxN hi (Ok.bind (Ok.of_eq hm (Ok.iteB (fun _ => Ok.bind (Ok.of_eq (atL_ok (by have := h.sntL; omega)) ?_)) (fun hx => by simp at hx)))))) (fun hx => by simp only [decide_eq_false_iff_not] at hx; omega)
    rw [h.snt]
    refine Ok.bind (Ok.of_eq (BG.Same_refl (by have := wf.len; omega)) (Ok.iteB (fun hx => by simp at hx) (fun _ => ?_)))
    rw [wrap_i64 ((i : Int) + 1) (by omega)]
    exact hr () trivial
  · unfold f_backwashlaw15_CellSettles_B3
    simp only
    refine Ok.iteB (fun hx => by simp at hx) (fun _ => ?_)
    unfold f_backwashlaw15_CellSettles_J2
    rw [hw]
    refine Ok.bind (Ok.of_eq (cRight_eq (by omega) hcl) (Ok.iteB (fun _ => Ok.bind (Ok.of_eq (Stale_eq (by omega) hcl) (Ok.some ?_))) (fun hx => by simp [h.cl] at hx)))
    unfold staleS
    rw [if_pos h.cl, List.filter_eq_nil_iff.2 fun s hs => by rw [hn s hs]; simp]
    rfl
theorem port_eq (p : UInt8) : IntKind.i64.wrap (Int.tmod ((UInt8.toNat p : Nat) : Int) 2) = 0 ∨ IntKind.i64.wrap (Int.tmod ((UInt8.toNat p : Nat) : Int) 2) = 1 := by
  have h := Int.tmod_eq_emod (a := ((UInt8.toNat p : Nat) : Int)) (b := 2)
  rw [if_pos (.inl (by omega))] at h
  have h' : Int.tmod ((UInt8.toNat p : Nat) : Int) 2 = ((UInt8.toNat p : Nat) : Int) % 2 := by omega
  rw [h', wrap_i64 _ (by omega)]
  omega
theorem CellSettles_holds (x : GNode) (lazy : Bool) (l : List GBackwashlaw15_Act) (_ : Dat.ok x) (_ : Dat.ok lazy) (hl : Dat.ok l) : f_backwashlaw15_CellSettles x lazy l = some true := by
  refine Ok.eq ?_
  unfold f_backwashlaw15_CellSettles
  refine Ok.bind (Ok.of_eq awake_ok (Ok.iteB (fun hx => by cases hx) (fun _ => Ok.iteB (fun _ => Ok.some rfl) (fun hx => ?_))))
  have hlen : l.length ≤ 100 := by simp at hx; omega
  have hN : ∀ (i : Nat) (hi : i < l.length), -128 ≤ l[i].N.n ∧ l[i].N.n < 128 := fun i hi => by
    have h1 := hl.2 l[i] (List.getElem_mem hi)
    exact inI_i8 h1.2.2.2.2
  refine Ok.eachG (l := l) (by omega) (fun i (s : List GSlot × List Came × List Came) => (s.1, i, s.2.1, s.2.2)) (fun q => q.2.1) (fun _ _ => rfl) (fun i s => Inv x i i s.1 s.2.1 s.2.2) 0 (fun rec i hi s _ hI hr => ?_) (fun rec s hI => ?_) (s0 := ([], [], [])) (Inv.init x) (Nat.zero_le _)
  · obtain ⟨c, inn, sent⟩ := s
    simp only at hI
    unfold f_backwashlaw15_CellSettles_B4
    refine Ok.iteB (fun _ => Ok.bind (Ok.idxN hi ?_)) (fun hx => by simp only [decide_eq_false_iff_not] at hx; omega)
    rw [wrap_i64 ((i : Int) + 1) (by omega)]
    refine Ok.iteB (fun _ => ?_) (fun _ => ?_)
    · exact Ok.bind2 (settle_ok 1 hI (by omega) (by omega)) fun v hv => hr (v.1, inn, v.2.1) (hv.1.up (by omega) (Nat.le_refl _))
    · have hn := hN i hi
      rw [wrap_i64 l[i].N.n (by omega)]
      have hp := port_eq l[i].Port
      by_cases hok : ok l[i].Time ∧ l[i].N.n ≠ 0
      · obtain ⟨c', b, inn', e1, e2, e3⟩ := hI.come (by omega) (r := l[i].Rec) hok.1 hp hn hok.2
        exact Ok.bind (Ok.of_eq e1 (Ok.iteB (fun _ => Ok.bind (Ok.of_eq e2 (hr (c', inn', sent) (e3.up (Nat.le_refl _) (by omega))))) (fun hx => by cases hx)))
      · have hno := Come_no (kind := x.Kind) (port := IntKind.i64.wrap (Int.tmod ((UInt8.toNat l[i].Port : Nat) : Int) 2)) (t := l[i].Time) (r := l[i].Rec) (n := l[i].N.n) (hI.sz (by omega)) (by omega) (fun q => hok ⟨q.2.1, q.2.2.2.1⟩)
        exact Ok.bind (Ok.of_eq hno (Ok.iteB (fun hx => by cases hx) (fun _ => hr (c, inn, sent) (hI.up (by omega) (by omega)))))
  · obtain ⟨c, inn, sent⟩ := s
    simp only at hI
    unfold f_backwashlaw15_CellSettles_B4
    refine Ok.iteB (fun hx => by simp at hx) (fun _ => ?_)
    unfold f_backwashlaw15_CellSettles_J1
    refine Ok.bind2 (settle_ok (lazy := lazy) 200 hI (by omega) (by omega)) fun v hv => ?_
    obtain ⟨h1, h2, h3⟩ := hv
    refine Ok.iteB (fun hb => ?_) (fun hb => ?_)
    · simp only [Bool.not_eq_true'] at hb
      rcases h3 hb with h4 | h4
      · omega
      · exact Ok.bind (Ok.of_eq (roomless_ok h1 (by omega) h4) (Ok.some rfl))
    · simp only [Bool.not_eq_false'] at hb
      exact final_ok h1 (by omega) (by omega) (h2 hb) v rfl
end CE
end Go.Proofs.Ythpahhhdapdcpaa
