/-
  The law in plain words: what its plain function gives is true. No condition beyond those that each theorem names.
-/
import Derived.Test.YtlpfoonihpdekaaGreatWalkWF1
import Derived.Test.YtlpfoonihpdekaaGreatWalkWF2
import Derived.Test.YtlpfoonihpdekaaGreatWalkWF0
import Derived.Test.YtlpfoonihpdekaaGreatP10m
import Derived.Test.YtlpfoonihpdekaaGreatP16p
set_option linter.unusedSimpArgs false
set_option linter.unusedVariables false
set_option linter.unusedSectionVars false
namespace Go.Proofs.YtlpfoonihpdekaaGreat
open Go Go.RowKit VA
namespace WF
open Classical HP
def Rch (g : GGraph) (tbl : Nat → List (List HP.Hp)) (q p : GPoint) : Prop :=
 ∃ n m : Nat, n < g.Nodes.length ∧ m < g.Nodes.length ∧ q.Node = (n : Int) ∧ p.Node = (m : Int) ∧ ∃ h ∈ p9 (tbl n) m, (app (lev g n : Int) h q.Time).2 = true ∧ TS.le (app (lev g n : Int) h q.Time).1 p.Time
section
variable {g : GGraph} (hG : VA.Good g) {tbl : Nat → List (List HP.Hp)} (hT : ∀ j < g.Nodes.length, Fin_ g j (tbl j))
include hG hT
omit hG hT in
theorem zh4 {n : Nat} (hn : n < g.Nodes.length) {Q : List (List GHop) → Prop} (h : Q (gh (lev g n : Int) (tbl n))) : Ok (idx (q7c g tbl g.Nodes.length) (n : Int)) Q := by
 have htl : (q7c g tbl g.Nodes.length).length = g.Nodes.length := by unfold q7c; simp
 refine ja0 (by rw [htl]; exact hn) ?_; have hget : (q7c g tbl g.Nodes.length)[n]'(by rw [htl]; exact hn) = gh (lev g n : Int) (tbl n) := by unfold q7c; rw [List.getElem_map, List.getElem_range]
 rw [hget]; exact h
omit hG hT in
theorem zb2 {q p : GPoint} (h : q.Node < 0 ∨ (g.Nodes.length : Int) ≤ q.Node ∨ p.Node < 0 ∨ (g.Nodes.length : Int) ≤ p.Node) : ¬ Rch g tbl q p := by
 rintro ⟨n, m, h1, h2, h3, h4, _⟩; omega
theorem zp5 (q p : GPoint) : qa3 (q7c g tbl g.Nodes.length) q.Node q.Time p.Node p.Time = some (decide (Rch g tbl q p)) := by
 have hnl := hG.nl; have htl : (q7c g tbl g.Nodes.length).length = g.Nodes.length := by unfold q7c; simp
 refine ja2 ?_; unfold qa3 qk1
 by_cases hqn : q.Node < 0 ∨ (g.Nodes.length : Int) ≤ q.Node ∨ p.Node < 0
 · rw [if_pos (by rw [htl]; simp only [Bool.or_eq_true, decide_eq_true_eq]; omega)]; refine Ok.bind (Ok.some ?_); refine ja5 (l := ([] : List Nat)) (by simp) (fun _ => True) 0 (fun _ i hi => absurd hi (by simp)) (fun rec _ => ?_) trivial (Nat.zero_le _); unfold q5w; rw [if_neg (by simp)]; exact Ok.some (by simp [zb2 (show _ from by omega : q.Node < 0 ∨ (g.Nodes.length : Int) ≤ q.Node ∨ p.Node < 0 ∨ (g.Nodes.length : Int) ≤ p.Node)])
 obtain ⟨n, hn⟩ : ∃ n : Nat, q.Node = (n : Int) := ⟨q.Node.toNat, by omega⟩; have hnN : n < g.Nodes.length := by omega
 have hrl := (hT n hnN).R.len; have hgl : (gh (lev g n : Int) (tbl n)).length = g.Nodes.length := by unfold gh; simpa using hrl
 rw [if_neg (by rw [htl]; simp only [Bool.or_eq_true, decide_eq_true_eq]; omega), hn]; rw [show idx (q7c g tbl g.Nodes.length) (n : Int) = some (gh (lev g n : Int) (tbl n)) from ja2 (zh4 hnN rfl)]
 by_cases hpn : (g.Nodes.length : Int) ≤ p.Node
 · refine Ok.bind ?_; refine Ok.bind (Ok.some ?_); rw [if_pos (by rw [hgl]; simp only [decide_eq_true_eq]; omega)]; refine Ok.some ?_; refine ja5 (l := ([] : List Nat)) (by simp) (fun _ => True) 0 (fun _ i hi => absurd hi (by simp)) (fun rec _ => ?_) trivial (Nat.zero_le _); unfold q5w; rw [if_neg (by simp)]; exact Ok.some (by simp [zb2 (show _ from by omega : q.Node < 0 ∨ (g.Nodes.length : Int) ≤ q.Node ∨ p.Node < 0 ∨ (g.Nodes.length : Int) ≤ p.Node)])
 obtain ⟨m, hm⟩ : ∃ m : Nat, p.Node = (m : Int) := ⟨p.Node.toNat, by omega⟩; have hmN : m < g.Nodes.length := by omega
 have hsh := (hT n hnN).R.short (by omega) (fun v => (qw8 hG v).2) m; refine Ok.bind ?_; refine Ok.bind (Ok.some ?_); rw [if_neg (by rw [hgl]; simp only [decide_eq_true_eq]; omega), hm]; refine Ok.bind (qe3 (by omega) (Ok.some ?_)); have hR : Rch g tbl q p ↔ ∃ h ∈ p9 (tbl n) m, (app (lev g n : Int) h q.Time).2 = true ∧ TS.le (app (lev g n : Int) h q.Time).1 p.Time := by
  constructor
  ·
   rintro ⟨n', m', _, _, e1, e2, h⟩; obtain rfl : n = n' := by omega
   obtain rfl : m = m' := by omega
   exact h
  · exact fun h => ⟨n, m, hnN, hmN, hn, hm, h⟩
 refine ja5 (l := p9 (tbl n) m) (by omega) (fun i => ∀ h ∈ (p9 (tbl n) m).take i, ¬ ((app (lev g n : Int) h q.Time).2 = true ∧ TS.le (app (lev g n : Int) h q.Time).1 p.Time)) 0 (fun rec i hi _ hI hr => ?_) (fun rec hI => ?_) (by simp) (Nat.zero_le _)
 ·
  obtain ⟨hpr, hpl⟩ := (hT n hnN).R.rp _ _ (List.getElem_mem hi); unfold q5w; rw [if_pos (by simp; omega), iw hi (by omega)]; refine Ok.bind (ja0 (by simpa using hi) ?_); rw [List.getElem_map, j0u hpr]; refine Ok.bind (Ok.some ?_); have hno : ¬ ((app (lev g n : Int) (p9 (tbl n) m)[i] q.Time).2 = true ∧ TS.le (app (lev g n : Int) (p9 (tbl n) m)[i] q.Time).1 p.Time) → Ok (rec ((i + 1 : Nat) : Int)) (fun r => r = decide (Rch g tbl q p)) := fun hne => hr (by
   intro h hh; rw [HP.snoc hi, List.mem_append, List.mem_singleton] at hh; rcases hh with hh | rfl
   · exact hI h hh
   · exact hne)
  refine j9z (fun h1 => ?_) (fun h1 => hno (by simp [h1])); rw [TS.le_eq]; refine Ok.bind (Ok.some (j9z (fun h2 => Ok.some ?_) (fun h2 => hno ?_)))
  · simp only [decide_eq_true_eq] at h2; exact (decide_eq_true (hR.2 ⟨_, List.getElem_mem hi, h1, h2⟩)).symm
  · simp only [decide_eq_false_iff_not] at h2; exact fun h => h2 h.2
 ·
  rw [List.take_length] at hI; unfold q5w; rw [if_neg (by simp)]; exact Ok.some (by
   have : ¬ Rch g tbl q p := fun h => by
    obtain ⟨x, hx, h3⟩ := hR.1 h; exact hI x hx h3
   simp [this])
theorem zi8 (q p : GPoint) : q4p (q7c g tbl g.Nodes.length) q.Node q.Time p.Node p.Time = some (decide (Rch g tbl q p)) := by
 have hnl := hG.nl; have htl : (q7c g tbl g.Nodes.length).length = g.Nodes.length := by unfold q7c; simp
 refine ja2 ?_; unfold q4p
 by_cases hout : q.Node < 0 ∨ (g.Nodes.length : Int) ≤ q.Node ∨ p.Node < 0 ∨ (g.Nodes.length : Int) ≤ p.Node
 · rw [if_pos (by rw [htl]; simp only [Bool.or_eq_true, decide_eq_true_eq]; omega)]; exact Ok.some (by simp [zb2 hout])
 obtain ⟨n, hn⟩ : ∃ n : Nat, q.Node = (n : Int) := ⟨q.Node.toNat, by omega⟩; obtain ⟨m, hm⟩ : ∃ m : Nat, p.Node = (m : Int) := ⟨p.Node.toNat, by omega⟩; have hnN : n < g.Nodes.length := by omega
 have hmN : m < g.Nodes.length := by omega
 have hrl := (hT n hnN).R.len; have hsh := (hT n hnN).R.short (by omega) (fun v => (qw8 hG v).2) m; rw [if_neg (by rw [htl]; simp only [Bool.or_eq_true, decide_eq_true_eq]; omega), hn, hm]; have hR : Rch g tbl q p ↔ ∃ h ∈ p9 (tbl n) m, (app (lev g n : Int) h q.Time).2 = true ∧ TS.le (app (lev g n : Int) h q.Time).1 p.Time := by
  constructor
  ·
   rintro ⟨n', m', _, _, e1, e2, h⟩; obtain rfl : n = n' := by omega
   obtain rfl : m = m' := by omega
   exact h
  · exact fun h => ⟨n, m, hnN, hmN, hn, hm, h⟩
 refine ja5 (l := p9 (tbl n) m) (by omega) (fun i => ∀ h ∈ (p9 (tbl n) m).take i, ¬ ((app (lev g n : Int) h q.Time).2 = true ∧ TS.le (app (lev g n : Int) h q.Time).1 p.Time)) 0 (fun rec i hi _ hI hr => ?_) (fun rec hI => ?_) (by simp) (Nat.zero_le _)
 ·
  obtain ⟨hpr, hpl⟩ := (hT n hnN).R.rp _ _ (List.getElem_mem hi); unfold q5l; refine Ok.bind (zh4 hnN (Ok.bind (qe3 (by omega) ?_))); rw [if_pos (by simp; omega), iw hi (by omega)]; refine Ok.bind (ja0 (by simpa using hi) ?_); rw [List.getElem_map, zt8 hpr]; refine Ok.bind (Ok.some ?_); have hno : ¬ ((app (lev g n : Int) (p9 (tbl n) m)[i] q.Time).2 = true ∧ TS.le (app (lev g n : Int) (p9 (tbl n) m)[i] q.Time).1 p.Time) → Ok (rec ((i + 1 : Nat) : Int)) (fun r => r = decide (Rch g tbl q p)) := fun hne => hr (by
   intro h hh; rw [HP.snoc hi, List.mem_append, List.mem_singleton] at hh; rcases hh with hh | rfl
   · exact hI h hh
   · exact hne)
  refine j9z (fun h1 => ?_) (fun h1 => hno (by simp [h1])); rw [TS.rle_eq]; refine Ok.bind (Ok.some (j9z (fun h2 => Ok.some ?_) (fun h2 => hno ?_)))
  · simp only [decide_eq_true_eq] at h2; exact (decide_eq_true (hR.2 ⟨_, List.getElem_mem hi, h1, h2⟩)).symm
  · simp only [decide_eq_false_iff_not] at h2; exact fun h => h2 h.2
 ·
  rw [List.take_length] at hI; unfold q5l; refine Ok.bind (zh4 hnN (Ok.bind (qe3 (by omega) ?_))); rw [if_neg (by simp)]; exact Ok.some (by
   have : ¬ Rch g tbl q p := fun h => by
    obtain ⟨x, hx, h3⟩ := hR.1 h; exact hI x hx h3
   simp [this])
omit hG in
theorem zs7 {tbl' : Nat → List (List HP.Hp)} (hT' : ∀ j < g.Nodes.length, Fin_ g j (tbl' j)) {q p : GPoint} (h : Rch g tbl q p) : Rch g tbl' q p := by
 obtain ⟨n, m, hn, hm, e1, e2, x, hx, h1, h2⟩ := h; obtain ⟨y, hy, hyx⟩ := ((hT n hn).same (hT' n hn)).1 m x ⟨x, hx, q92 _⟩; obtain ⟨k1, k2⟩ := j2x ((hT' n hn).R.rp _ _ hy) ((hT n hn).R.rp _ _ hx) hyx h1 h2; exact ⟨n, m, hn, hm, e1, e2, y, hy, k1, k2⟩
def Fr (g : GGraph) (tbl : Nat → List (List HP.Hp)) (waits : List GPoint) (p : GPoint) : Prop := ∀ q ∈ waits, q ≠ p → ¬ Rch g tbl q p
theorem zo8 {waits : List GPoint} (hl : waits.length < 1000000000) (p : GPoint) : q7g (q7c g tbl g.Nodes.length) waits p = some (decide (Fr g tbl waits p)) := by
 unfold q7g; rw [show q53 waits (fun x0_ => q7f x0_ p (q7c g tbl g.Nodes.length)) = some (waits.any fun q => decide (q ≠ p ∧ Rch g tbl q p)) from qs0 (by omega) (fun q hq => by
  unfold q7f; rw [UN.pt_eq]; refine ja2 (j9z (fun h => Ok.some ?_) (fun h => ?_))
  · simp only [decide_eq_true_eq] at h; simp [h]
  · simp only [decide_eq_false_iff_not] at h; rw [zp5 hG hT]; exact Ok.bind (Ok.some (Ok.some (by simp [h])))
  )]
 refine ja2 (Ok.bind (Ok.some (Ok.some ?_))); rw [Bool.eq_iff_iff]; simp only [Bool.not_eq_true', List.any_eq_false, decide_eq_true_eq]; unfold Fr; exact ⟨fun h q hq hne hr => h q hq ⟨hne, hr⟩, fun h q hq hh => h q hq hh.1 hh.2⟩
end
theorem zx3 {g : GGraph} (hG : VA.Good g) {waits : List GPoint} (hl : waits.length < 1000000000) : Ok (q7v g waits) fun l => ∃ tbl : Nat → List (List HP.Hp), (∀ j < g.Nodes.length, Fin_ g j (tbl j)) ∧ l = waits.filter fun p => decide (Fr g tbl waits p) := by
 have hn := hG.nl; have h0 : q52 g waits = .none := by
  unfold q52; rw [z8d]
  show (if (!((chk g).1 == 0)) = true then _ else _) = _
  rw [z1p.2 hG]; rfl
 unfold q7v; rw [h0]
 show Ok (qa1 g waits) _
 unfold qa1; refine j9y (j30 hG) ?_; rintro _ ⟨tbl, rfl, hT⟩; refine Ok.guard (by unfold q7c; simp; omega) ?_; refine q3k (l := waits) (by omega) (fun i (a : List GPoint) => (i, a)) (fun p => p.1) (fun _ _ => rfl) (fun i a => a = (waits.take i).filter fun p => decide (Fr g tbl waits p)) 0 (fun rec i hi a _ hI hr => ?_) (fun rec a hI => ?_) (by simp) (Nat.zero_le _)
 ·
  subst hI; have hfl : ((waits.take i).filter fun p => decide (Fr g tbl waits p)).length ≤ i := by
   refine Nat.le_trans (List.length_filter_le _ _) ?_; rw [List.length_take]; omega
  unfold qa0; dsimp only; rw [if_pos (by simp only [decide_eq_true_eq]; omega), iw hi (by omega)]; refine Ok.bind (ja0 hi ?_); rw [zo8 hG hT hl]; refine Ok.bind (Ok.some (j9z (fun h => ?_) (fun h => ?_)))
  · refine Ok.guard (by simp only [List.length_cons, List.length_nil]; omega) (hr _ ?_); rw [HP.snoc hi, List.filter_append, List.filter_cons, if_pos h, List.filter_nil]
  · refine hr _ ?_; rw [HP.snoc hi, List.filter_append, List.filter_cons, if_neg (by simp [h]), List.filter_nil, List.append_nil]
 · subst hI; unfold qa0; dsimp only; rw [if_neg (by simp), List.take_length]; exact Ok.some ⟨tbl, hT, rfl⟩
theorem j0t {g : GGraph} (hG : ¬ VA.Good g) (waits : List GPoint) : q7v g waits = some [] := by
 have h0 : q52 g waits = some [] := by
  unfold q52; rw [z8d]
  show (if (!((chk g).1 == 0)) = true then _ else _) = _
  rw [if_pos (by simpa using fun h => hG (z1p.1 h))]
 unfold q7v; rw [h0]
theorem j0l : q8c = some true := by kernel_rfl
theorem j1r (g : GGraph) : Ok (q5x g) fun r => r = true → ∀ x ∈ g.Nodes, x.Prog.length ≤ 100 := by
 unfold q5x; refine j9z (fun h => Ok.some fun h' => by cases h') (fun h => ?_); simp only [Bool.or_eq_false_iff, decide_eq_false_iff_not] at h; refine ja5 (l := g.Nodes) (by omega) (fun i => ∀ x ∈ g.Nodes.take i, x.Prog.length ≤ 100) 0 (fun rec i hi _ hI hr => ?_) (fun rec hI => ?_) (by simp) (Nat.zero_le _)
 ·
  unfold q6s; rw [if_pos (by simp only [decide_eq_true_eq]; omega), iw hi (by omega)]; refine Ok.bind (ja0 hi (j9z (fun h => Ok.some fun h' => by cases h') (fun h => hr fun x hx => ?_))); simp only [decide_eq_false_iff_not] at h; rw [HP.snoc hi, List.mem_append, List.mem_singleton] at hx; rcases hx with hx | rfl
  · exact hI x hx
  · omega
 · unfold q6s; rw [if_neg (by simp)]; rw [List.take_length] at hI; exact Ok.some fun _ => hI
theorem z9q (g : GGraph) (waits : List GPoint) (_ : Dat.ok g) (_ : Dat.ok waits) : q3t g waits = some true := by
 unfold q3t; rw [j0l]; refine ja2 (Ok.bind (Ok.some ?_)); rw [if_neg (by simp)]; refine j9y (j1r g) fun b hb => j9z (fun _ => Ok.some rfl) (fun hs => ?_); simp only [Bool.or_eq_false_iff, Bool.not_eq_false', decide_eq_false_iff_not] at hs; obtain ⟨hs1, hs2⟩ := hs; have hwl : waits.length ≤ 40 := by omega
 have hprog := hb hs1; have hC : q3y g = some (chk g) := zz4 g fun x hx => by have := hprog x hx; omega
 by_cases hG : VA.Good g
 ·
  have hn := hG.nl; refine j9y (zx3 hG (waits := waits) (by omega)) ?_; rintro _ ⟨tbl, hT, rfl⟩; rw [hC]; refine Ok.bind (Ok.some ?_); rw [if_neg (by simp [z1p.2 hG])]; refine q3k (l := g.Nodes) (by omega) (fun i (a : List (List (List GHop))) => (i, a)) (fun p => p.1) (fun _ _ => rfl) (fun i a => ∃ tb : Nat → List (List HP.Hp), a = q7c g tb i ∧ ∀ j < i, Fin_ g j (tb j)) 0 (fun rec i hi a _ hI hr => ?_) (fun rec a hI => ?_) ⟨fun _ => [], rfl, by simp⟩ (Nat.zero_le _)
  ·
   obtain ⟨tb, rfl, hF⟩ := hI; unfold q4n; dsimp only; rw [if_pos (by simp only [decide_eq_true_eq]; omega), iw hi (by omega)]; refine j9y (j7h hG hi) ?_; rintro _ ⟨row, rfl, hrow⟩; have htl : (q7c g tb i).length = i := by unfold q7c; simp
   refine Ok.guard (by rw [htl]; simp only [List.length_cons, List.length_nil]; omega) (hr _ ⟨fun j => if j = i then row else tb j, ?_, fun j hj => ?_⟩)
   ·
    unfold q7c; rw [List.range_succ, List.map_append]
    congr 1
    ·
     refine List.map_congr_left fun j hj => ?_; have hji : ¬ j = i := Nat.ne_of_lt (List.mem_range.1 hj)
     show _ = gh _ (if j = i then row else tb j)
     rw [if_neg hji]
    · simp
   ·
    by_cases h : j = i
    · subst h; simp only [if_true]; exact hrow
    · simp only [if_neg h]; exact hF j (by omega)
  ·
   obtain ⟨tb, rfl, hF⟩ := hI; unfold q4n; dsimp only; rw [if_neg (by simp)]; have hiff : ∀ q p, Rch g tb q p ↔ Rch g tbl q p := fun q p => ⟨zs7 hF hT, zs7 hT hF⟩; unfold q4m; refine q3k (l := waits) (by omega) (fun i (n : Int) => (n, i)) (fun p => p.2) (fun _ _ => rfl) (fun i n => n = (((waits.take i).filter fun p => decide (Fr g tbl waits p)).length : Int)) 0 (fun rec' i hi n _ hI hr => ?_) (fun rec' n hI => ?_) (by simp) (Nat.zero_le _)
   ·
    subst hI; have hfl : ((waits.take i).filter fun p => decide (Fr g tbl waits p)).length ≤ i := by
     refine Nat.le_trans (List.length_filter_le _ _) ?_; rw [List.length_take]; omega
    unfold q37; dsimp only; rw [if_pos (by simp only [decide_eq_true_eq]; omega)]; refine q3k (l := waits) (by omega) (fun k (b : Bool) => (b, k)) (fun p => p.2) (fun _ _ => rfl) (fun k b => b = true ↔ ∀ q ∈ waits.take k, q ≠ waits[i] → ¬ Rch g tbl q waits[i]) 0 (fun rec'' k hk b _ hJ hr' => ?_) (fun rec'' b hJ => ?_) (by simp) (Nat.zero_le _)
    ·
     unfold q4o; dsimp only; rw [if_pos (by simp only [decide_eq_true_eq]; omega), iw hk (by omega)]; refine Ok.bind (ja0 hk (Ok.bind (ja0 hi ?_))); rw [UN.pt_eq]; have hst : ∀ b', (b' = true ↔ b = true ∧ (waits[k] ≠ waits[i] → ¬ Rch g tbl waits[k] waits[i])) → Ok (rec'' (b', ((k + 1 : Nat) : Int))) (fun r => r = true) := fun b' hb' => hr' b' (by
      rw [hb', hJ, HP.snoc hk]
      constructor
      ·
       rintro ⟨a1, a2⟩ q hq; rw [List.mem_append, List.mem_singleton] at hq; rcases hq with hq | rfl
       · exact a1 q hq
       · exact a2
      · intro a; exact ⟨fun q hq => a q (List.mem_append_left _ hq), a _ (List.mem_append_right _ (List.mem_singleton.2 rfl))⟩)
     refine j9z (fun h => ?_) (fun h => ?_)
     · simp only [decide_eq_true_eq] at h; exact hst b (by simp [h])
     ·
      simp only [decide_eq_false_iff_not] at h; rw [zi8 hG hF]; refine Ok.bind (Ok.some (j9z (fun h2 => ?_) (fun h2 => ?_)))
      · simp only [decide_eq_true_eq] at h2; exact hst false (by simp [h, (hiff _ _).1 h2])
      · simp only [decide_eq_false_iff_not] at h2; exact hst b ⟨fun hb' => ⟨hb', fun _ h3 => h2 ((hiff _ _).2 h3)⟩, fun h => h.1⟩
    ·
     rw [List.take_length] at hJ; unfold q4o; dsimp only; rw [if_neg (by simp)]; unfold q4l; rw [iw hi (by omega)]; have hbF : b = true ↔ Fr g tbl waits waits[i] := hJ
     cases hb2 : b with
     | false =>
      have hnF : ¬ Fr g tbl waits waits[i] := fun h => by rw [hbF.2 h] at hb2; cases hb2
      rw [if_pos (by simp)]; refine hr _ ?_; rw [HP.snoc hi, List.filter_append, List.filter_cons, if_neg (by simp [hnF]), List.filter_nil, List.append_nil]
     | true =>
      have hFr := hbF.1 hb2; have hsp : (waits.take (i + 1)).filter (fun p => decide (Fr g tbl waits p)) = (waits.take i).filter (fun p => decide (Fr g tbl waits p)) ++ [waits[i]] := by
       rw [HP.snoc hi, List.filter_append, List.filter_cons, if_pos (by simp [hFr]), List.filter_nil]
      have hall : waits.filter (fun p => decide (Fr g tbl waits p)) = (waits.take i).filter (fun p => decide (Fr g tbl waits p)) ++ ([waits[i]] ++ (waits.drop (i + 1)).filter (fun p => decide (Fr g tbl waits p))) := by
       rw [← List.append_assoc, ← hsp, ← List.filter_append, List.take_append_drop]
      rw [if_neg (by simp), if_neg (by rw [hall]; simp only [List.length_append, List.length_cons, List.length_nil, decide_eq_true_eq]; omega)]; have hlt : ((waits.take i).filter fun p => decide (Fr g tbl waits p)).length < (waits.filter fun p => decide (Fr g tbl waits p)).length := by rw [hall]; simp only [List.length_append, List.length_cons, List.length_nil]; omega
      refine Ok.bind (ja0 hlt (Ok.bind (ja0 hi ?_))); rw [UN.pt_eq]; have hget : (waits.filter fun p => decide (Fr g tbl waits p))[((waits.take i).filter fun p => decide (Fr g tbl waits p)).length] = waits[i] := by
       have h1 : (waits.filter fun p => decide (Fr g tbl waits p))[((waits.take i).filter fun p => decide (Fr g tbl waits p)).length]? = some waits[i] := by
        rw [hall, List.getElem?_append_right (Nat.le_refl _), Nat.sub_self]; rfl
       rw [List.getElem?_eq_getElem hlt] at h1; exact Option.some.inj h1
      rw [hget, if_neg (by simp)]; rw [show IntKind.i64.wrap ((((waits.take i).filter fun p => decide (Fr g tbl waits p)).length : Int) + 1) = ((((waits.take i).filter fun p => decide (Fr g tbl waits p)).length + 1 : Nat) : Int) by rw [wrap_i64 _ (by omega)]; omega]; refine hr _ ?_; rw [hsp, List.length_append]; rfl
   · subst hI; unfold q37; dsimp only; rw [if_neg (by simp), List.take_length]; exact Ok.some (by simp)
 · rw [j0t hG]; refine Ok.bind (Ok.some ?_); rw [hC]; refine Ok.bind (Ok.some ?_); rw [if_pos (by simpa using fun h => hG (z1p.1 h))]; exact Ok.some rfl
end WF
end Go.Proofs.YtlpfoonihpdekaaGreat
