/-
  The law in plain words: what its plain function gives is true. No condition beyond those that each theorem names.
-/
import Derived.Test.YtbcbcdbkdljjlaaWalkFS0
import Derived.Test.YtbcbcdbkdljjlaaP24c
set_option linter.unusedSimpArgs false
set_option linter.unusedVariables false
set_option linter.unusedSectionVars false
namespace Go.Proofs.Ytbcbcdbkdljjlaa
open Go Go.RowKit VA
namespace FU
open Classical
/-! What stays true of a graph that becomes smaller. -/
theorem cf_append (a b : List Bool) : cf (a ++ b) = cf a + cf b := by simp [cf]
theorem cf_lt {gone : List Bool} {i j : Nat} (hi : i < gone.length) (hij : i < j) (h : gone[i] = false) : cf (gone.take i) < cf (gone.take j) := by
  have h1 : gone.take j = gone.take i ++ (gone.take j).drop i := by
    have : (gone.take j).take i = gone.take i := by rw [List.take_take, Nat.min_eq_left (by omega)]
    rw [← this, List.take_append_drop]
  have h2 : i < (gone.take j).length := by rw [List.length_take]; omega
  rw [h1, cf_append, List.drop_eq_getElem_cons h2, cf_cons]
  have : (gone.take j)[i] = false := by rw [List.getElem_take]; exact h
  rw [this]; simp; omega
def alive (gone : List Bool) (i : Int) : Prop := 0 ≤ i ∧ i < gone.length ∧ atB gone i = false
theorem alive.get {gone : List Bool} {i : Int} (h : alive gone i) : ∃ k : Nat, ∃ hk : k < gone.length, i = (k : Int) ∧ gone[k] = false := by
  obtain ⟨h0, h1, h2⟩ := h
  refine ⟨i.toNat, by omega, by omega, ?_⟩
  unfold atB at h2
  rw [List.getD_eq_getElem?_getD, List.getElem?_eq_getElem (by omega)] at h2
  exact h2
theorem now_alive {gone : List Bool} {k : Nat} (hk : k < gone.length) (h : gone[k] = false) : now gone (k : Int) = (cf (gone.take k) : Int) := by
  unfold now
  rw [Int.toNat_natCast]
  have h1 : gone = gone.take k ++ gone[k] :: gone.drop (k + 1) := by rw [← List.drop_eq_getElem_cons hk, List.take_append_drop]
  have h2 : nows gone 0 = nows (gone.take k) 0 ++ (cf (gone.take k) : Int) :: nows (gone.drop (k + 1)) (cf (gone.take k) + 1) := by
    conv => lhs; rw [h1]
    rw [nows_append, h, nows, Nat.zero_add]
  have h3 : (nows (gone.take k) 0).length = k := by rw [nows_len, List.length_take]; omega
  rw [h2, List.getD_eq_getElem?_getD, List.getElem?_append_right (by omega), h3, Nat.sub_self]; rfl
theorem now_inj {gone : List Bool} {i j : Int} (hi : alive gone i) (hj : alive gone j) (h : now gone i = now gone j) : i = j := by
  obtain ⟨a, ha, rfl, ga⟩ := hi.get
  obtain ⟨b, hb, rfl, gb⟩ := hj.get
  rw [now_alive ha ga, now_alive hb gb] at h
  rcases Nat.lt_trichotomy a b with hlt | rfl | hlt
  · have := cf_lt ha hlt ga; omega
  · rfl
  · have := cf_lt hb hlt gb; omega
theorem keepN_get {xs : List GNode} {gone : List Bool} (hl : xs.length = gone.length) {k : Nat} (hk : k < gone.length) (h : gone[k] = false) : (keepN xs gone)[cf (gone.take k)]? = some (xs[k]'(by omega)) := by
  have h1 : gone = gone.take k ++ gone[k] :: gone.drop (k + 1) := by rw [← List.drop_eq_getElem_cons hk, List.take_append_drop]
  have h2 : xs = xs.take k ++ xs[k]'(by omega) :: xs.drop (k + 1) := by rw [← List.drop_eq_getElem_cons (by omega), List.take_append_drop]
  have h3 : keepN xs gone = keepN (xs.take k) (gone.take k) ++ (xs[k]'(by omega)) :: keepN (xs.drop (k + 1)) (gone.drop (k + 1)) := by
    conv => lhs; rw [h1, h2]
    rw [keepN_append _ _ _ _ (by rw [List.length_take, List.length_take, hl]), h, keepN]
  have h4 : (keepN (xs.take k) (gone.take k)).length = cf (gone.take k) := keepN_len _ _ (by rw [List.length_take, List.length_take, hl])
  rw [h3, List.getElem?_append_right (by omega), h4, Nat.sub_self]; rfl
structure Inv (g : GGraph) (l : List GEdge) (gone : List Bool) : Prop where
  G : VA.Good g
  pr : ∀ x ∈ g.Nodes, x.Prog.length < 1000000
  ll : l.length ≤ 64
  gl : gone.length = g.Nodes.length
  al : ∀ e ∈ l, alive gone e.From ∧ alive gone e.To
  rt : VA.Good (builtG g l gone)
  kd : ∀ n : Nat, n < g.Nodes.length → atB gone n = true → (nd g n).Kind ≠ 1 ∧ (nd g n).Kind ≠ 15
theorem Inv.inE {g : GGraph} {l : List GEdge} {gone : List Bool} (h : Inv g l gone) : InE g l := fun e he => by
  obtain ⟨h1, h2⟩ := h.al e he
  have := h.gl
  exact ⟨⟨h1.1, by have := h1.2.1; omega⟩, ⟨h2.1, by have := h2.2.1; omega⟩⟩
theorem rightB_iff {g : GGraph} {l : List GEdge} {gone : List Bool} : rightB g l gone = true ↔ VA.Good (builtG g l gone) := by unfold rightB; rw [decide_eq_true_eq, chk_good]
section
variable {g : GGraph} {l : List GEdge} {gone : List Bool} (I : Inv g l gone)
include I
theorem nd_built {n : Nat} (hn : n < g.Nodes.length) (ha : atB gone n = false) : cf (gone.take n) < (builtG g l gone).Nodes.length ∧ nd (builtG g l gone) (cf (gone.take n)) = nd g n ∧ now gone (n : Int) = (cf (gone.take n) : Int) := by
  have hgl := I.gl
  have hk : n < gone.length := by omega
  have hga : gone[n] = false := by rw [← atB_get (g := g) (by have := I.G.nl; omega) hgl hk]; exact ha
  have h1 := keepN_get (xs := g.Nodes) hgl.symm hk hga
  have h2 : nd (builtG g l gone) (cf (gone.take n)) = nd g n := by
    show (keepN g.Nodes gone).getD (cf (gone.take n)) ⟨0, 0, 0, []⟩ = nd g n
    rw [List.getD_eq_getElem?_getD, h1, ← nd_get hn]; rfl
  exact ⟨(List.getElem?_eq_some_iff.1 h1).1, h2, now_alive hk hga⟩
theorem src_some {n : Nat} (hn : n < g.Nodes.length) (ha : atB gone n = false) (hp : 1 ≤ ports (nd g n).Kind) : ∃ e, src l n = some e ∧ e ∈ l ∧ e.To = n := by
  obtain ⟨h1, h2, h3⟩ := nd_built I hn ha
  have hf := I.rt.fu _ h1
  rw [h2] at hf
  have hpos : 0 < cntTo (builtG g l gone) (cf (gone.take n)) := by omega
  obtain ⟨e', he'⟩ := List.exists_mem_of_length_pos hpos
  have hm := List.mem_filter.1 he'
  obtain ⟨e, he, rfl⟩ := List.mem_map.1 (show e' ∈ l.map (mapE gone) from hm.1)
  have ht : now gone e.To = (cf (gone.take n) : Int) := by simpa [mapE] using hm.2
  have hen : e.To = n := now_inj (I.al e he).2 ⟨by omega, by have := I.gl; omega, ha⟩ (ht.trans h3.symm)
  cases hs : src l n with
  | none =>
    have := List.find?_eq_none.1 hs e he
    simp [hen] at this
  | some x =>
    have h4 := List.find?_some hs
    exact ⟨x, rfl, List.mem_of_find?_eq_some hs, by simpa using h4⟩
omit I in
theorem noth_ports {n : Nat} (h : noth g l n = true) : ports (nd g n).Kind = 1 ∧ (nd g n).Kind ≠ 12 ∧ (nd g n).Kind ≠ 1 ∧ (nd g n).Kind ≠ 15 := by
  unfold noth at h
  have : (nd g n).Kind = 13 ∨ (nd g n).Kind = 3 ∨ (nd g n).Kind = 4 ∨ (nd g n).Kind = 6 ∨ (nd g n).Kind = 8 := by
    split at h
    · omega
    split at h
    · omega
    split at h
    · omega
    split at h
    · omega
    · cases h
  rcases this with h | h | h | h | h <;> rw [h] <;> decide
theorem own_ok {n : Nat} (hn : n < g.Nodes.length) (ha : atB gone n = false) (hno : noth g l n = true) : ownE l n ∈ l ∧ (ownE l n).To = n ∧ (ownE l n).From ≠ n := by
  obtain ⟨e, h1, h2, h3⟩ := src_some I hn ha (by rw [(noth_ports hno).1]; omega)
  have ho : ownE l n = e := by unfold ownE; rw [h1]; rfl
  rw [ho]
  refine ⟨h2, h3, fun hf => ?_⟩
  have hm : mapE gone e ∈ (builtG g l gone).Edges := List.mem_map.2 ⟨e, h2, rfl⟩
  have hk := (I.rt.ed.at hm).2.2.2.2.2.1 (by simp only [mapE, hf, h3]; omega)
  obtain ⟨k1, k2, k3⟩ := nd_built I hn ha
  have : ndI (builtG g l gone) (mapE gone e).From = nd g n := by
    unfold ndI
    simp only [mapE, hf]
    rw [k3, Int.toNat_natCast, k2]
  rw [this] at hk
  exact (noth_ports hno).2.1 hk
omit I in
theorem set_atB {n : Nat} (hn : n < gone.length) {j : Int} (hj : 0 ≤ j) : atB (gone.set n true) j = if j = n then true else atB gone j := by
  have := atB_set (l := gone) (i := (n : Int)) (j := j) (by omega) (by omega) hj
  simpa using this
theorem Inv.leave {n : Nat} (hn : n < g.Nodes.length) (h : canLeave g l gone n = true) : Inv g (wout l n (ownE l n)) (gone.set n true) ∧ cf (gone.set n true) < cf gone := by
  unfold canLeave at h
  simp only [Bool.and_eq_true, Bool.not_eq_true'] at h
  obtain ⟨ha, hno, hr⟩ := h
  obtain ⟨o1, o2, o3⟩ := own_ok I hn ha hno
  have hgl := I.gl
  have hnl : n < gone.length := by omega
  have hnp := noth_ports hno
  refine ⟨⟨I.G, I.pr, ?_, by simpa using hgl, fun e he => ?_, rightB_iff.1 hr, fun m hm h => ?_⟩, ?_⟩
  · unfold wout
    rw [List.length_map]
    exact Nat.le_trans (List.length_filter_le _ _) I.ll
  · obtain ⟨x, hx, rfl⟩ := List.mem_map.1 he
    obtain ⟨hxl, hxt⟩ := List.mem_filter.1 hx
    have hxt' : x.To ≠ n := by simpa using hxt
    obtain ⟨a1, a2⟩ := I.al x hxl
    obtain ⟨b1, _⟩ := I.al _ o1
    have hset : ∀ j, alive gone j → j ≠ n → alive (gone.set n true) j := fun j hj hjn => ⟨hj.1, by rw [List.length_set]; exact hj.2.1, by rw [set_atB hnl hj.1, if_neg hjn]; exact hj.2.2⟩
    unfold turnE
    split
    · exact ⟨hset _ b1 o3, hset _ a2 hxt'⟩
    · rename_i hf; exact ⟨hset _ a1 hf, hset _ a2 hxt'⟩
  · rw [set_atB hnl (by omega)] at h
    split at h
    · rename_i hmn
      have : m = n := by omega
      subst this
      exact hnp.2.2
    · exact I.kd m hm h
  · have hget : gone[n]? = some false := by
      rw [List.getElem?_eq_getElem hnl, ← atB_get (g := g) (by have := I.G.nl; omega) hgl hnl, ha]
    have := cf_set hget; omega
theorem Inv.idle (hs : someI g l gone = true) (hr : rightB g (l.filter (keepE (idl g l gone))) (idl g l gone) = true) : Inv g (l.filter (keepE (idl g l gone))) (idl g l gone) ∧ cf (idl g l gone) < cf gone := by
  have hgl := I.gl
  have hil := idl_len (l := l) I.G hgl
  have hat : ∀ i : Nat, i < g.Nodes.length → atB (idl g l gone) i = (atB gone i || isIdle g l gone i) := fun i hi => by
    rw [atB_get (g := g) (by have := I.G.nl; omega) hil (by omega), idl_get I.G hgl hi]
  have hsub : Sub gone (idl g l gone) := ⟨by omega, fun i hi h => by
    by_cases hb : i < g.Nodes.length
    · have := hat i.toNat (by omega)
      rw [Int.toNat_of_nonneg hi] at this
      rw [this, h]; rfl
    · unfold atB at h
      rw [List.getD_eq_getElem?_getD, List.getElem?_eq_none (by omega)] at h
      cases h⟩
  refine ⟨⟨I.G, I.pr, Nat.le_trans (List.length_filter_le _ _) I.ll, hil, fun e he => ?_, rightB_iff.1 hr, fun m hm h => ?_⟩, ?_⟩
  · obtain ⟨hel, hk⟩ := List.mem_filter.1 he
    obtain ⟨a1, a2⟩ := I.al e hel
    unfold keepE at hk
    simp only [Bool.and_eq_true, Bool.not_eq_true'] at hk
    exact ⟨⟨a1.1, by rw [hil, ← hgl]; exact a1.2.1, hk.1⟩, ⟨a2.1, by rw [hil, ← hgl]; exact a2.2.1, hk.2⟩⟩
  · rw [hat m hm, Bool.or_eq_true] at h
    rcases h with h | h
    · exact I.kd m hm h
    · unfold isIdle at h
      simp only [Bool.and_eq_true, decide_eq_true_eq, Bool.not_eq_true', beq_eq_false_iff_ne, ne_eq] at h
      refine ⟨h.2.2, fun h15 => h.2.1 (.sink m ⟨by omega, by omega⟩ ?_)⟩
      unfold ndI; rw [Int.toNat_natCast]; exact h15
  · obtain ⟨g1, g2⟩ := hsub.cf
    refine Nat.lt_of_le_of_ne g1 fun he => ?_
    have hh := g2 he
    obtain ⟨n, hn, hi⟩ := List.any_eq_true.1 hs
    have hn' := List.mem_range.1 hn
    have h1 := hat n hn'
    rw [← hh, hi, Bool.or_true] at h1
    unfold isIdle at hi
    rw [h1] at hi; cases hi
theorem Inv.step {l' : List GEdge} {gone' : List Bool} (h : stepS g l gone = some (l', gone')) : Inv g l' gone' ∧ cf gone' < cf gone := by
  unfold stepS at h
  split at h
  · rename_i hc
    rw [Bool.and_eq_true] at hc
    simp only [Option.some.injEq, Prod.mk.injEq] at h
    obtain ⟨rfl, rfl⟩ := h
    exact I.idle hc.1 hc.2
  · split at h
    · rename_i n hf
      simp only [Option.some.injEq, Prod.mk.injEq] at h
      obtain ⟨rfl, rfl⟩ := h
      exact I.leave (List.mem_range.1 (List.mem_of_find?_eq_some hf)) (List.find?_some hf)
    · cases h
end
/-- So many steps at most. -/
noncomputable def runS (g : GGraph) : Nat → List GEdge → List Bool → List GEdge × List Bool
  | 0, l, gone => (l, gone)
  | k + 1, l, gone => match stepS g l gone with
    | none => (l, gone)
    | some (l', gone') => runS g k l' gone'
theorem runS_more {g : GGraph} : ∀ (k : Nat) {l : List GEdge} {gone : List Bool}, Inv g l gone → cf gone ≤ k → ∀ j, cf gone ≤ j → runS g k l gone = runS g j l gone
  | 0, l, gone, I, hk, j, hj => by
    cases j with
    | zero => rfl
    | succ j =>
      rw [runS, runS]
      cases hs : stepS g l gone with
      | none => rfl
      | some p => have := (I.step (l' := p.1) (gone' := p.2) hs).2; omega
  | k + 1, l, gone, I, hk, j, hj => by
    rw [runS]
    cases hs : stepS g l gone with
    | none =>
      cases j with
      | zero => rfl
      | succ j => rw [runS, hs]
    | some p =>
      obtain ⟨I', hlt⟩ := I.step (l' := p.1) (gone' := p.2) hs
      cases j with
      | zero => omega
      | succ j =>
        rw [runS, hs]
        exact runS_more k I' (by omega) j (by omega)
theorem runS_inv {g : GGraph} : ∀ (k : Nat) {l : List GEdge} {gone : List Bool}, Inv g l gone → cf gone ≤ k → Inv g (runS g k l gone).1 (runS g k l gone).2 ∧ stepS g (runS g k l gone).1 (runS g k l gone).2 = none
  | 0, l, gone, I, hk => by
    rw [runS]
    refine ⟨I, ?_⟩
    cases hs : stepS g l gone with
    | none => rfl
    | some p => have := (I.step (l' := p.1) (gone' := p.2) hs).2; omega
  | k + 1, l, gone, I, hk => by
    rw [runS]
    cases hs : stepS g l gone with
    | none => exact ⟨I, hs⟩
    | some p =>
      obtain ⟨I', hlt⟩ := I.step (l' := p.1) (gone' := p.2) hs
      exact runS_inv k I' (by omega)
end FU
end Go.Proofs.Ytbcbcdbkdljjlaa
