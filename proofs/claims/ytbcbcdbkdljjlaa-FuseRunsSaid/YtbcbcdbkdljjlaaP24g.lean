/-
  The law in plain words: what its plain function gives is true. No condition beyond those that each theorem names.
-/
import Derived.Test.YtbcbcdbkdljjlaaWalkFS0
import Derived.Test.YtbcbcdbkdljjlaaWalkFS2
import Derived.Test.YtbcbcdbkdljjlaaP24f
set_option linter.unusedSimpArgs false
set_option linter.unusedVariables false
set_option linter.unusedSectionVars false
namespace Go.Proofs.Ytbcbcdbkdljjlaa
open Go Go.RowKit VA
namespace FU
open Classical
/-! What is made smaller once more stays. -/
/-- First some are gone, then of those that are left. -/
def comp : List Bool → List Bool → List Bool
  | true :: a, d => true :: comp a d
  | false :: a, b :: d => b :: comp a d
  | _, _ => []
theorem comp_len : ∀ (a d : List Bool), d.length = cf a → (comp a d).length = a.length
  | [], _, _ => by simp [comp]
  | true :: a, d, h => by rw [cf_cons] at h; simp [comp, comp_len a d (by simpa using h)]
  | false :: a, b :: d, h => by rw [cf_cons, List.length_cons] at h; simp [comp, comp_len a d (by simp at h; omega)]
  | false :: a, [], h => by rw [cf_cons] at h; simp at h; omega
theorem comp_get : ∀ (a d : List Bool), d.length = cf a → ∀ k (hk : k < a.length), (comp a d)[k]? = some (a[k] || d.getD (cf (a.take k)) false)
  | [], _, _, k, hk => by simp at hk
  | true :: a, d, h, k, hk => by
    rw [cf_cons] at h
    cases k with
    | zero => simp [comp]
    | succ k =>
      have := comp_get a d (by simpa using h) k (by simpa using hk)
      simp only [comp, List.getElem?_cons_succ, List.getElem_cons_succ, List.take_succ_cons, cf_cons, if_true, Nat.zero_add]
      exact this
  | false :: a, b :: d, h, k, hk => by
    rw [cf_cons, List.length_cons] at h
    cases k with
    | zero => simp [comp, cf]
    | succ k =>
      have := comp_get a d (by simp at h; omega) k (by simpa using hk)
      simp only [comp, List.getElem?_cons_succ, List.getElem_cons_succ, List.take_succ_cons, cf_cons, Bool.false_eq_true, if_false]
      rw [Nat.add_comm, List.getD_cons_succ]
      exact this
  | false :: a, [], h, k, hk => by rw [cf_cons] at h; simp at h; omega
theorem keepN_comp : ∀ (xs : List GNode) (a d : List Bool), xs.length = a.length → d.length = cf a → keepN (keepN xs a) d = keepN xs (comp a d)
  | [], [], d, _, _ => by cases d <;> simp [keepN]
  | x :: xs, true :: a, d, h, hd => by
    rw [cf_cons] at hd
    simp only [keepN, comp]
    exact keepN_comp xs a d (by simpa using h) (by simpa using hd)
  | x :: xs, false :: a, b :: d, h, hd => by
    rw [cf_cons, List.length_cons] at hd
    have := keepN_comp xs a d (by simpa using h) (by simp at hd; omega)
    cases b <;> simp only [keepN, comp, this]
  | x :: xs, false :: a, [], h, hd => by rw [cf_cons] at hd; simp at hd; omega
  | [], _ :: _, _, h, _ => by simp at h
  | _ :: _, [], _, h, _ => by simp at h
theorem nows_comp : ∀ (a d : List Bool) (k : Nat), d.length = cf a → ∀ i (hi : i < a.length), a[i] = false → (nows (comp a d) k).getD i 0 = (nows d k).getD (cf (a.take i)) 0
  | [], _, _, _, i, hi, _ => by simp at hi
  | true :: a, d, k, h, i, hi, ha => by
    rw [cf_cons] at h
    cases i with
    | zero => simp at ha
    | succ i =>
      have := nows_comp a d k (by simpa using h) i (by simpa using hi) (by simpa using ha)
      simp only [comp, nows, List.getD_cons_succ, List.take_succ_cons, cf_cons, if_true, Nat.zero_add]
      exact this
  | false :: a, b :: d, k, h, i, hi, ha => by
    rw [cf_cons, List.length_cons] at h
    cases i with
    | zero => cases b <;> simp [comp, nows, cf]
    | succ i =>
      simp only [comp, List.take_succ_cons, cf_cons, Bool.false_eq_true, if_false]
      rw [Nat.add_comm 1]
      cases b with
      | true =>
        simp only [nows, List.getD_cons_succ]
        exact nows_comp a d k (by simp at h; omega) i (by simpa using hi) (by simpa using ha)
      | false =>
        simp only [nows, List.getD_cons_succ]
        exact nows_comp a d (k + 1) (by simp at h; omega) i (by simpa using hi) (by simpa using ha)
  | false :: a, [], k, h, _, _, _ => by rw [cf_cons] at h; simp at h; omega
/-- Each that is left has one place. -/
theorem cf_onto : ∀ (a : List Bool) (j : Nat), j < cf a → ∃ n, ∃ h : n < a.length, a[n] = false ∧ cf (a.take n) = j
  | [], j, h => by simp [cf] at h
  | true :: a, j, h => by
    rw [cf_cons] at h
    obtain ⟨n, hn, h1, h2⟩ := cf_onto a j (by simpa using h)
    exact ⟨n + 1, by simpa using hn, by simpa using h1, by rw [List.take_succ_cons, cf_cons, h2]; simp⟩
  | false :: a, j, h => by
    rw [cf_cons] at h
    cases j with
    | zero => exact ⟨0, by simp, by simp, by simp [cf]⟩
    | succ j =>
      obtain ⟨n, hn, h1, h2⟩ := cf_onto a j (by simp at h; omega)
      exact ⟨n + 1, by simpa using hn, by simpa using h1, by rw [List.take_succ_cons, cf_cons, h2]; simp; omega⟩
section
variable {g : GGraph} {l : List GEdge} {gone : List Bool} (I : Inv g l gone)
include I
theorem aliveN {n : Nat} (hn : n < g.Nodes.length) (ha : atB gone n = false) : alive gone (n : Int) := ⟨by omega, by have := I.gl; omega, ha⟩
theorem atB_of {n : Nat} (hn : n < g.Nodes.length) : atB gone n = gone[n]'(by have := I.gl; omega) := atB_get (g := g) (by have := I.G.nl; omega) I.gl (by have := I.gl; omega)
theorem comp_at {d : List Bool} (hd : d.length = cf gone) {n : Nat} (hn : n < g.Nodes.length) (ha : atB gone n = false) : atB (comp gone d) n = atB d (cf (gone.take n) : Nat) := by
  have hk : n < gone.length := by have := I.gl; omega
  have hga : gone[n] = false := by rw [← atB_of I hn]; exact ha
  unfold atB
  rw [Int.toNat_natCast, Int.toNat_natCast, List.getD_eq_getElem?_getD, comp_get gone d hd n hk, hga]; rfl
theorem comp_now {d : List Bool} (hd : d.length = cf gone) {i : Int} (hi : alive gone i) : now d (now gone i) = now (comp gone d) i := by
  obtain ⟨k, hk, rfl, hg⟩ := hi.get
  rw [now_alive hk hg]
  unfold now
  rw [Int.toNat_natCast, Int.toNat_natCast]
  exact (nows_comp gone d 0 hd k hk hg).symm
theorem comp_atI {d : List Bool} (hd : d.length = cf gone) {i : Int} (hi : alive gone i) : atB d (now gone i) = atB (comp gone d) i := by
  obtain ⟨k, hk, rfl, hg⟩ := hi.get
  rw [now_alive hk hg]
  exact (comp_at I hd (by have := I.gl; omega) hi.2.2).symm
theorem builtG_comp {d : List Bool} (hd : d.length = cf gone) {l2 : List GEdge} (h2 : ∀ e ∈ l2, alive gone e.From ∧ alive gone e.To) : builtG (builtG g l gone) (l2.map (mapE gone)) d = builtG g l2 (comp gone d) := by
  have hgl := I.gl
  have h1 : keepN (keepN g.Nodes gone) d = keepN g.Nodes (comp gone d) := keepN_comp _ _ _ hgl.symm hd
  have h3 : (l2.map (mapE gone)).map (mapE d) = l2.map (mapE (comp gone d)) := by
    rw [List.map_map]
    refine List.map_congr_left fun e he => ?_
    obtain ⟨a1, a2⟩ := h2 e he
    show mapE d (mapE gone e) = _
    unfold mapE
    dsimp only
    rw [comp_now I hd a1, comp_now I hd a2]
  unfold builtG
  dsimp only
  rw [h1, h3]
theorem ndI_built {i : Int} (hi : alive gone i) : ndI (builtG g l gone) (now gone i) = ndI g i ∧ inG (builtG g l gone) (now gone i) ∧ inG g i := by
  have hgl := I.gl
  obtain ⟨k, hk, rfl, hg⟩ := hi.get
  obtain ⟨b1, b2, b3⟩ := nd_built I (n := k) (by omega) hi.2.2
  rw [b3]
  refine ⟨?_, ⟨by omega, by omega⟩, ⟨by omega, by omega⟩⟩
  unfold ndI
  rw [Int.toNat_natCast, Int.toNat_natCast, b2]
theorem Us_built {i : Int} (hi : alive gone i) : Us (builtG g l gone) (builtG g l gone).Edges (now gone i) ↔ Us g l i := by
  constructor
  · intro h
    generalize hj : now gone i = j at h
    induction h generalizing i with
    | sink n h hk =>
      subst hj
      obtain ⟨b1, b2, b3⟩ := ndI_built I hi
      exact .sink i b3 (by rw [← b1]; exact hk)
    | step e he h ih =>
      obtain ⟨x, hx, rfl⟩ := List.mem_map.1 (show e ∈ l.map (mapE gone) from he)
      obtain ⟨a1, a2⟩ := I.al x hx
      have : i = x.From := now_inj hi a1 hj
      subst this
      exact .step x hx (ih a2 rfl)
  · intro h
    induction h with
    | sink n h hk =>
      obtain ⟨b1, b2, b3⟩ := ndI_built I hi
      exact .sink _ b2 (by rw [b1]; exact hk)
    | step e he h ih =>
      obtain ⟨a1, a2⟩ := I.al e he
      exact .step (mapE gone e) (List.mem_map.2 ⟨e, he, rfl⟩) (ih a2)
theorem built_len : (builtG g l gone).Nodes.length = cf gone := keepN_len _ _ I.gl.symm
theorem isIdle_built {n : Nat} (hn : n < g.Nodes.length) (ha : atB gone n = false) {m : Nat} : isIdle (builtG g l gone) (builtG g l gone).Edges (List.replicate m false) (cf (gone.take n)) = isIdle g l gone n := by
  obtain ⟨b1, b2, b3⟩ := nd_built I hn ha
  have hu := Us_built I (aliveN I hn ha)
  rw [b3] at hu
  unfold isIdle
  rw [atB_rep, ha, b2]
  have : decide (¬ Us (builtG g l gone) (builtG g l gone).Edges (cf (gone.take n) : Nat)) = decide (¬ Us g l n) := by
    rw [decide_eq_decide, not_congr hu]
  rw [this]
theorem idl_built : comp gone (idl (builtG g l gone) (builtG g l gone).Edges (List.replicate (cf gone) false)) = idl g l gone := by
  have hgl := I.gl
  have hlen := built_len I
  have hil : (idl (builtG g l gone) (builtG g l gone).Edges (List.replicate (cf gone) false)).length = cf gone := by unfold idl; simp [hlen]
  refine List.ext_getElem? fun n => ?_
  by_cases hn : n < g.Nodes.length
  · rw [comp_get _ _ hil n (by omega)]
    have h1 : (idl g l gone)[n]? = some (atB gone n || isIdle g l gone n) := by
      unfold idl; simp [hn]
    rw [h1, atB_of I hn]
    cases hb : gone[n]'(by omega) with
    | true => simp
    | false =>
      have ha : atB gone n = false := by rw [atB_of I hn, hb]
      obtain ⟨b1, _, _⟩ := nd_built I hn ha
      rw [← isIdle_built I hn ha (m := cf gone)]
      simp only [Bool.false_or]
      unfold idl
      simp [List.getD_eq_getElem?_getD, b1, atB_rep]
  · rw [List.getElem?_eq_none (by rw [comp_len _ _ hil]; omega), List.getElem?_eq_none (by unfold idl; simp; omega)]
theorem someI_built : someI (builtG g l gone) (builtG g l gone).Edges (List.replicate (cf gone) false) = someI g l gone := by
  have hgl := I.gl
  rw [Bool.eq_iff_iff]
  unfold someI
  rw [built_len I, List.any_eq_true, List.any_eq_true]
  constructor
  · rintro ⟨j, hj, h⟩
    obtain ⟨n, hn, h1, h2⟩ := cf_onto gone j (List.mem_range.1 hj)
    have hn' : n < g.Nodes.length := by omega
    refine ⟨n, List.mem_range.2 hn', ?_⟩
    rw [← h2, isIdle_built I hn' (by rw [atB_of I hn', h1])] at h
    exact h
  · rintro ⟨n, hn, h⟩
    have hn' := List.mem_range.1 hn
    have ha : atB gone n = false := by
      unfold isIdle at h
      simp only [Bool.and_eq_true, Bool.not_eq_true'] at h
      exact h.1
    obtain ⟨b1, _, _⟩ := nd_built I hn' ha
    exact ⟨_, List.mem_range.2 (by rw [← built_len I]; exact b1), by rw [isIdle_built I hn' ha]; exact h⟩
theorem keepE_built {d : List Bool} (hd : d.length = cf gone) : (builtG g l gone).Edges.filter (keepE d) = (l.filter (keepE (comp gone d))).map (mapE gone) := by
  show (l.map (mapE gone)).filter (keepE d) = _
  rw [List.filter_map]
  congr 1
  refine List.filter_congr fun e he => ?_
  obtain ⟨a1, a2⟩ := I.al e he
  show keepE d (mapE gone e) = _
  unfold keepE mapE
  dsimp only
  rw [comp_atI I hd a1, comp_atI I hd a2]
theorem src_built {n : Nat} (hn : n < g.Nodes.length) (ha : atB gone n = false) : src (builtG g l gone).Edges (cf (gone.take n)) = (src l n).map (mapE gone) := by
  obtain ⟨_, _, b3⟩ := nd_built I hn ha
  show (l.map (mapE gone)).find? _ = _
  unfold src
  rw [List.find?_map]
  congr 1
  have hall : ∀ e ∈ l, ((fun e : GEdge => e.To == ((cf (gone.take n) : Nat) : Int)) ∘ mapE gone) e = (e.To == (n : Int)) := fun e he => by
    obtain ⟨_, a2⟩ := I.al e he
    show ((mapE gone e).To == _) = _
    rw [Bool.eq_iff_iff, beq_iff_eq, beq_iff_eq]
    unfold mapE
    dsimp only
    rw [← b3]
    exact ⟨fun h => now_inj a2 (aliveN I hn ha) h, fun h => by rw [h]⟩
  have hgen : ∀ (q : List GEdge) (p1 p2 : GEdge → Bool), (∀ e ∈ q, p1 e = p2 e) → q.find? p1 = q.find? p2 := by
    intro q p1 p2
    induction q with
    | nil => intro _; rfl
    | cons y q ih =>
      intro h
      rw [List.find?_cons, List.find?_cons, h y (by simp), ih fun e he => h e (by simp [he])]
  exact hgen l _ _ hall
theorem noth_built {n : Nat} (hn : n < g.Nodes.length) (ha : atB gone n = false) : noth (builtG g l gone) (builtG g l gone).Edges (cf (gone.take n)) = noth g l n := by
  obtain ⟨_, b2, _⟩ := nd_built I hn ha
  unfold noth
  rw [b2, src_built I hn ha]
  cases hs : src l n with
  | none => rfl
  | some e =>
    obtain ⟨a1, _⟩ := I.al e (List.mem_of_find?_eq_some hs)
    have := (ndI_built I a1).1
    simp only [Option.map_some]
    rw [show (mapE gone e).From = now gone e.From from rfl, this]
theorem wout_built {n : Nat} (hn : n < g.Nodes.length) (ha : atB gone n = false) (own : GEdge) : wout (builtG g l gone).Edges (cf (gone.take n)) (mapE gone own) = (wout l n own).map (mapE gone) := by
  obtain ⟨_, _, b3⟩ := nd_built I hn ha
  unfold wout
  rw [show (builtG g l gone).Edges = l.map (mapE gone) from rfl, List.filter_map, List.map_map, List.map_map]
  have h1 : l.filter ((fun e : GEdge => !(e.To == ((cf (gone.take n) : Nat) : Int))) ∘ mapE gone) = l.filter fun e => !(e.To == (n : Int)) := by
    refine List.filter_congr fun e he => ?_
    obtain ⟨_, a2⟩ := I.al e he
    show (!((mapE gone e).To == _)) = _
    congr 1
    rw [Bool.eq_iff_iff, beq_iff_eq, beq_iff_eq]
    unfold mapE
    dsimp only
    rw [← b3]
    exact ⟨fun h => now_inj a2 (aliveN I hn ha) h, fun h => by rw [h]⟩
  rw [h1]
  refine List.map_congr_left fun e he => ?_
  obtain ⟨a1, _⟩ := I.al e (List.mem_filter.1 he).1
  show turnE _ _ (mapE gone e) = mapE gone (turnE n own e)
  unfold turnE
  have : ((mapE gone e).From = ((cf (gone.take n) : Nat) : Int)) ↔ e.From = n := by
    unfold mapE
    dsimp only
    rw [← b3]
    exact ⟨fun h => now_inj a1 (aliveN I hn ha) h, fun h => by rw [h]⟩
  by_cases hf : e.From = n
  · rw [if_pos hf, if_pos (this.2 hf)]; rfl
  · rw [if_neg hf, if_neg (fun h => hf (this.1 h))]
theorem set_built {n : Nat} (hn : n < g.Nodes.length) (ha : atB gone n = false) : comp gone ((List.replicate (cf gone) false).set (cf (gone.take n)) true) = gone.set n true := by
  have hgl := I.gl
  have hil : ((List.replicate (cf gone) false).set (cf (gone.take n)) true).length = cf gone := by simp
  obtain ⟨b1, _, _⟩ := nd_built I hn ha
  rw [built_len I] at b1
  refine List.ext_getElem? fun k => ?_
  by_cases hk : k < gone.length
  · rw [comp_get _ _ hil k hk]
    have hga : gone[n]'(by omega) = false := by rw [← atB_of I hn]; exact ha
    by_cases hkn : k = n
    · subst hkn
      rw [List.getElem?_set_self hk, List.getD_eq_getElem?_getD, List.getElem?_set_self (by simpa using b1)]; simp
    · rw [List.getElem?_set_ne (fun h => hkn h.symm), List.getElem?_eq_getElem hk]
      cases hb : gone[k] with
      | true => simp
      | false =>
        have hne : cf (gone.take n) ≠ cf (gone.take k) := fun h => by
          rcases Nat.lt_trichotomy n k with hlt | rfl | hlt
          · have := cf_lt (by omega) hlt hga; omega
          · exact hkn rfl
          · have := cf_lt hk hlt hb; omega
        rw [List.getD_eq_getElem?_getD, List.getElem?_set_ne hne]
        have : ((List.replicate (cf gone) false)[cf (gone.take k)]?).getD false = false := by
          by_cases h : cf (gone.take k) < cf gone
          · simp [h]
          · rw [List.getElem?_eq_none (by simpa using h)]; rfl
        rw [this]; rfl
  · rw [List.getElem?_eq_none (by rw [comp_len _ _ hil]; omega), List.getElem?_eq_none (by simp; omega)]
theorem canLeave_built {n : Nat} (hn : n < g.Nodes.length) (ha : atB gone n = false) : canLeave (builtG g l gone) (builtG g l gone).Edges (List.replicate (cf gone) false) (cf (gone.take n)) = canLeave g l gone n := by
  unfold canLeave
  rw [atB_rep, ha, noth_built I hn ha]
  cases hno : noth g l n with
  | false => rfl
  | true =>
    simp only [Bool.not_false, Bool.true_and]
    obtain ⟨e, h1, h2, h3⟩ := src_some I hn ha (by rw [(noth_ports hno).1]; omega)
    have ho : ownE l n = e := by unfold ownE; rw [h1]; rfl
    have ho' : ownE (builtG g l gone).Edges (cf (gone.take n)) = mapE gone e := by unfold ownE; rw [src_built I hn ha, h1]; rfl
    obtain ⟨_, _, o3⟩ := own_ok I hn ha hno
    rw [ho] at o3
    rw [ho, ho', wout_built I hn ha]
    have hal : ∀ x ∈ wout l n e, alive gone x.From ∧ alive gone x.To := fun x hx => by
      obtain ⟨y, hy, rfl⟩ := List.mem_map.1 hx
      obtain ⟨a1, a2⟩ := I.al y (List.mem_filter.1 hy).1
      obtain ⟨c1, _⟩ := I.al e h2
      unfold turnE
      split
      · exact ⟨c1, a2⟩
      · exact ⟨a1, a2⟩
    unfold rightB
    rw [builtG_comp I (by simp) hal, set_built I hn ha]
theorem step_built (hs : stepS g l gone = none) : stepS (builtG g l gone) (builtG g l gone).Edges (List.replicate (cf gone) false) = none := by
  have hgl := I.gl
  have hil : (idl (builtG g l gone) (builtG g l gone).Edges (List.replicate (cf gone) false)).length = cf gone := by unfold idl; simp [built_len I]
  have h1 : rightB (builtG g l gone) ((builtG g l gone).Edges.filter (keepE (idl (builtG g l gone) (builtG g l gone).Edges (List.replicate (cf gone) false)))) (idl (builtG g l gone) (builtG g l gone).Edges (List.replicate (cf gone) false)) = rightB g (l.filter (keepE (idl g l gone))) (idl g l gone) := by
    unfold rightB
    rw [keepE_built I hil, builtG_comp I hil (fun e he => I.al e (List.mem_filter.1 he).1), idl_built I]
  unfold stepS at hs ⊢
  rw [someI_built I, h1]
  split at hs
  · cases hs
  · rename_i hc
    rw [if_neg hc]
    split at hs
    · cases hs
    · rename_i hf
      have : (List.range (builtG g l gone).Nodes.length).find? (canLeave (builtG g l gone) (builtG g l gone).Edges (List.replicate (cf gone) false)) = none := by
        refine List.find?_eq_none.2 fun j hj => ?_
        rw [built_len I] at hj
        obtain ⟨n, hn, g1, g2⟩ := cf_onto gone j (List.mem_range.1 hj)
        have hn' : n < g.Nodes.length := by omega
        rw [← g2, canLeave_built I hn' (by rw [atB_of I hn', g1])]
        exact List.find?_eq_none.1 hf n (List.mem_range.2 hn')
      rw [this]
end
theorem runS_len {g : GGraph} : ∀ (k : Nat) (l : List GEdge) (gone : List Bool), (runS g k l gone).1.length ≤ l.length
  | 0, l, gone => by rw [runS]; exact Nat.le_refl _
  | k + 1, l, gone => by
    rw [runS]
    cases hs : stepS g l gone with
    | none => exact Nat.le_refl _
    | some p =>
      refine Nat.le_trans (runS_len k p.1 p.2) ?_
      unfold stepS at hs
      split at hs
      · simp only [Option.some.injEq] at hs; subst hs; exact List.length_filter_le _ _
      · split at hs
        · simp only [Option.some.injEq] at hs; subst hs; exact wout_len _ _ _
        · cases hs
/-- What was made smaller stays. -/
theorem again {g : GGraph} (hG : VA.Good g) (hpr : ∀ x ∈ g.Nodes, x.Prog.length < 1000000) : ∃ r : GFused × Int, f_fuse_Make (builtG g (fin g).1 (fin g).2) = some r ∧ r.2 = 0 ∧ r.1.Graph = builtG g (fin g).1 (fin g).2 := by
  obtain ⟨I, hs⟩ := runS_inv g.Nodes.length (Inv.start hG hpr) (by rw [cf_rep]; omega)
  have hst := step_built I hs
  have hpr' : ∀ x ∈ (builtG g (fin g).1 (fin g).2).Nodes, x.Prog.length < 1000000 := fun x hx => hpr x (keepN_mem _ _ x hx)
  refine ⟨_, Make_good I.rt hpr', rfl, ?_⟩
  have hf : fin (builtG g (fin g).1 (fin g).2) = ((builtG g (fin g).1 (fin g).2).Edges, List.replicate (builtG g (fin g).1 (fin g).2).Nodes.length false) := by
    show runS _ _ _ _ = _
    have hl : (builtG g (fin g).1 (fin g).2).Nodes.length = cf (fin g).2 := built_len I
    have hn := I.rt.nl
    have hn' : 1 ≤ (builtG g (fin g).1 (fin g).2).Nodes.length := hn.1
    obtain ⟨k, hk⟩ : ∃ k, (builtG g (fin g).1 (fin g).2).Nodes.length = k + 1 := ⟨_, (Nat.sub_add_cancel hn').symm⟩
    rw [hk, runS, ← hk, hl]
    have hst' : stepS (builtG g (fin g).1 (fin g).2) (builtG g (fin g).1 (fin g).2).Edges (List.replicate (cf (fin g).2) false) = none := hst
    rw [hst']
  rw [hf]
  exact built_none fun e he => ⟨(I.rt.ed.at he).1, (I.rt.ed.at he).2.1⟩
theorem FuseRuns_holds (g : GGraph) (_ : Dat.ok g) : f_backwashlaw24_FuseRuns g = some true := by
  unfold f_backwashlaw24_FuseRuns
  rw [awake_ok]
  refine Ok.eq (Ok.bind (Ok.some ?_))
  rw [if_neg (by simp)]
  refine Ok.bind2 (Short_ok g) fun b hb => ?_
  refine Ok.iteB (fun _ => Ok.some rfl) (fun h1 => ?_)
  obtain ⟨hs, hpr⟩ := hb (by simpa using h1)
  have hpr' : ∀ x ∈ g.Nodes, x.Prog.length < 1000000 := fun x hx => by have := hpr x hx; omega
  by_cases hG : VA.Good g
  · obtain ⟨I, _⟩ := runS_inv g.Nodes.length (Inv.start hG hpr') (by rw [cf_rep]; omega)
    have I : Inv g (fin g).1 (fin g).2 := I
    obtain ⟨r, hr1, hr2, hr3⟩ := again hG hpr'
    obtain ⟨q, q1, q2, q3, q4, q5, q6, q7, q8⟩ := both g hpr
    rw [Make_good hG hpr'] at q1 ⊢
    cases q1
    refine Ok.bind (Ok.some ?_)
    rw [if_neg (by simp)]
    show Ok (bindO (f_valid_Check (builtG g (fin g).1 (fin g).2)) _) _
    rw [Check_eq]
    refine Ok.bind (Ok.some ?_)
    have hgl := I.gl
    have hbl := built_len I
    have hcl := cf_le (fin g).2
    have hel : (fin g).1.length ≤ g.Edges.length := runS_len _ _ _
    have hnl : (nows (fin g).2 0).length = g.Nodes.length := by rw [nows_len, hgl]
    rw [if_neg (by
      rw [chk_good.2 I.rt]
      show ¬ (((!((0 : Int) == 0)) || decide ((g.Nodes.length : Int) < ((builtG g (fin g).1 (fin g).2).Nodes.length : Int))) || decide ((g.Edges.length : Int) < (((fin g).1.map (mapE (fin g).2)).length : Int))) = true
      rw [hbl, List.length_map]
      simp; omega)]
    refine Ok.each1 (l := g.Nodes) (by omega) (fun _ => True) 0 (fun rec i hi _ _ hr => ?_) (fun rec _ => ?_) trivial (Nat.zero_le _)
    · unfold f_backwashlaw24_FuseRuns_B2
      rw [if_pos (by simpa using hi)]
      refine Ok.bind (Ok.idxN hi ?_)
      show Ok (bindO (idx (nows (fin g).2 0) i) _) _
      refine Ok.bind (now_get (g := g) (by omega) hgl ⟨by omega, by omega⟩ ?_)
      rw [iw hi (by omega)]
      rw [nd_get hi]
      by_cases ha : atB (fin g).2 i = false
      · obtain ⟨b1, b2, b3⟩ := nd_built I hi ha
        rw [b3, if_neg (by simp; omega), if_pos (by simp)]
        show Ok (bindO (idx (builtG g (fin g).1 (fin g).2).Nodes _) _) _
        refine Ok.bind (Ok.idxN b1 ?_)
        rw [nd_get b1, b2, if_neg (by simp)]
        exact hr trivial
      · have ha' : atB (fin g).2 i = true := by simpa using ha
        obtain ⟨k1, k2⟩ := I.kd i hi ha'
        have hneg : now (fin g).2 i = -1 := by
          have hig : i < (fin g).2.length := by omega
          have hb : (fin g).2[i] = true := by rw [← atB_of I hi]; exact ha'
          have hh := nows_next (g := g) (by omega) hgl hig
          unfold now
          rw [Int.toNat_natCast, List.getD_eq_getElem?_getD]
          have h1 : (nows ((fin g).2.take (i + 1)) 0)[i]? = some (-1) := by
            rw [hh, hb, if_pos rfl, List.getElem?_append_right (by rw [nows_len, List.length_take]; omega)]
            rw [nows_len, List.length_take, Nat.min_eq_left (by omega), Nat.sub_self]; rfl
          have h2 : nows (fin g).2 0 = nows ((fin g).2.take (i + 1)) 0 ++ nows ((fin g).2.drop (i + 1)) (0 + cf ((fin g).2.take (i + 1))) := by
            rw [← nows_append, List.take_append_drop]
          rw [h2, List.getElem?_append_left (by rw [nows_len, List.length_take]; omega), h1]; rfl
        rw [hneg, if_neg (by simp [k1, k2]), if_neg (by simp)]
        exact hr trivial
    · unfold f_backwashlaw24_FuseRuns_B2
      rw [if_neg (by simp)]
      unfold f_backwashlaw24_FuseRuns_J1
      show Ok (bindO (f_fuse_Make (builtG g (fin g).1 (fin g).2)) _) _
      rw [hr1]
      refine Ok.bind (Ok.some ?_)
      rw [hr2, hr3, if_pos (by simp)]
      show Ok (bindO (f_backwashref08_Same (builtG g (fin g).1 (fin g).2) (builtG g (fin g).1 (fin g).2)) _) _
      have hsm : f_backwashref08_Same (builtG g (fin g).1 (fin g).2) (builtG g (fin g).1 (fin g).2) = some true := gSame_refl q3 q4 q5 q6 q7
      rw [hsm]
      exact Ok.bind (Ok.some (Ok.some rfl))
  · rw [Make_bad hG]
    refine Ok.bind (Ok.some ?_)
    rw [if_pos (by simp)]
    exact Ok.some rfl
end FU
end Go.Proofs.Ytbcbcdbkdljjlaa
