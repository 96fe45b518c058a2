/-
  The law in plain words: what its plain function gives is true. No condition beyond those that each theorem names.
-/
import Derived.Test.YtghbgjnmccjhdaaGreatWalkWN0
import Derived.Test.YtghbgjnmccjhdaaGreatP16p
import Derived.Test.YtghbgjnmccjhdaaGreatP16x
set_option linter.unusedSimpArgs false
set_option linter.unusedVariables false
set_option linter.unusedSectionVars false
namespace Go.Proofs.YtghbgjnmccjhdaaGreat
open Go Go.RowKit TS VA
namespace WV
open Classical
def qf1 (g : GGraph) (p : GPoint) : Prop := ∃ n : Nat, n < g.Nodes.length ∧ p.Node = (n : Int) ∧ ok p.Time ∧ p.Time.D = (HP.lev g n : Int)
def Tb (g : GGraph) (tb : List (List (List GHop))) : Prop := ∃ tbl : Nat → List (List HP.Hp), tb = HP.tblL g tbl g.Nodes.length ∧ ∀ j < g.Nodes.length, HP.Fin_ g j (tbl j)
def R (tb : List (List (List GHop))) (q p : GPoint) : Bool := (q1q tb q.Node q.Time p.Node p.Time).getD false
theorem zh1 {g : GGraph} (hG : VA.Good g) {tbl : Nat → List (List HP.Hp)} (hT : ∀ j < g.Nodes.length, HP.Fin_ g j (tbl j)) {n m : Nat} (hn : n < g.Nodes.length) (hm : m < g.Nodes.length) :
  q5i (HP.tblL g tbl g.Nodes.length) (n : Int) (m : Int) = some ((HP.rw_ (tbl n) m).map (HP.mkp (HP.lev g n))) := by
 have hrl := (hT n hn).R.len; unfold q5i; have htl : (HP.tblL g tbl g.Nodes.length).length = g.Nodes.length := by unfold HP.tblL; simp
 refine j6n ?_; rw [if_neg (by rw [htl]; simp; omega)]; refine Ok.bind (j6l (by rw [htl]; exact hn) ?_); have hget : (HP.tblL g tbl g.Nodes.length)[n]'(by rw [htl]; exact hn) = HP.gh (HP.lev g n : Int) (tbl n) := by unfold HP.tblL; rw [List.getElem_map, List.getElem_range]
 rw [hget]; rw [if_neg (by unfold HP.gh; rw [List.length_map, hrl]; simp; omega)]; exact Ok.bind (HP.gh_get (by omega) (Ok.some rfl))
theorem z3m {g : GGraph} (hG : VA.Good g) {tb : List (List (List GHop))} (hT : Tb g tb) {q p : GPoint} (hq : qf1 g q) (hp : qf1 g p) : q1q tb q.Node q.Time p.Node p.Time = some (R tb q p) := by
 have h : Ok (q1q tb q.Node q.Time p.Node p.Time) fun _ => True := by
  obtain ⟨tbl, rfl, hF⟩ := hT; obtain ⟨n, hn, e1, h1, h2⟩ := hq; obtain ⟨m, hm, e2, h3, h4⟩ := hp; have hnl := hG.nl; unfold q1q; rw [e1, e2, zh1 hG hF hn hm]; refine Ok.bind (Ok.some ?_); have hsh := (hF n hn).R.short (by omega) (fun v => (HP.lev4 hG v).2) m; refine j6p (l := HP.rw_ (tbl n) m) (by omega) (fun _ => True) 0 (fun rec i hi _ _ hr => ?_) (fun rec _ => ?_) trivial (Nat.zero_le _)
  · obtain ⟨hpr, hpl⟩ := (hF n hn).R.rp _ _ (List.getElem_mem hi); unfold q6f; rw [if_pos (by simp; omega), iw hi (by omega)]; refine Ok.bind (j6l (by simpa using hi) ?_); rw [List.getElem_map, show HP.mkp (HP.lev g n : Int) (HP.rw_ (tbl n) m)[i] = HP.mk (HP.lev g n : Int) (HP.rw_ (tbl n) m)[i].1 (HP.rw_ (tbl n) m)[i].2 from rfl, HP.Apply_eq hpr h1 h2]; refine Ok.bind (Ok.some ?_); refine j6k (fun _ => ?_) (fun _ => hr trivial); rw [TS.le_eq]; exact Ok.bind (Ok.some (j6k (fun _ => Ok.some trivial) (fun _ => hr trivial)))
  · unfold q6f; rw [if_neg (by simp)]; exact Ok.some trivial
 obtain ⟨b, hb, _⟩ := h; unfold R; rw [hb]; rfl
def Front (tb : List (List (List GHop))) (l : List GPoint) (p : GPoint) : Prop := ∀ q ∈ l, q ≠ p → R tb q p = false
theorem zb1 {s : List GPoint} {f : GPoint → Option Bool} {p : GPoint → Bool} (hl : s.length < 9223372036854775808) (hf : ∀ x ∈ s, f x = some (p x)) : q4l s f = some (s.any p) := q99 hl hf
theorem zj7 {g : GGraph} (hG : VA.Good g) {tb : List (List (List GHop))} (hT : Tb g tb) {l : List GPoint} (hl : ∀ q ∈ l, qf1 g q) (hll : l.length < 1000000000) {p : GPoint} (hp : qf1 g p) :
  q57 tb l p = some (decide (Front tb l p)) := by
 unfold q57; rw [zb1 (p := fun q => decide (q ≠ p ∧ R tb q p = true)) (by omega) (fun q hq => by
  unfold q76; rw [UN.pt_eq]; refine j6n (j6k (fun h => Ok.some ?_) (fun h => ?_))
  · simp only [decide_eq_true_eq] at h; simp [h]
  · simp only [decide_eq_false_iff_not] at h; rw [z3m hG hT (hl q hq) hp]; exact Ok.bind (Ok.some (Ok.some (by simp [h])))
  )]
 refine j6n (Ok.bind (Ok.some (Ok.some ?_))); rw [Bool.eq_iff_iff]; simp only [Bool.not_eq_true', List.any_eq_false, decide_eq_true_eq]; unfold Front
 constructor
 · exact fun h q hq hne => by simpa [hne] using h q hq
 · intro h q hq hh; have := h q hq hh.1; rw [this] at hh; exact absurd hh.2 (by simp)
def lt (a b : GPoint) : Prop := a.Node < b.Node ∨ a.Node = b.Node ∧ key a.Time < key b.Time
theorem zx3 (a b : Int) : q4j a b = some (if a < b then -1 else if b < a then 1 else 0) := by
 simp only [q4j, q84, q9, Option.bind_some, beq_self_eq_true, Bool.not_true, Bool.false_eq_true, if_false, decide_eq_true_eq]
 split <;> (try rfl)
 split <;> rfl
theorem z0q {a b : GPoint} (ha : ok a.Time) (hb : ok b.Time) : Ok (q8p a b) fun n => n < 0 ↔ lt a b := by
 unfold q8p; rw [zx3]; refine Ok.bind (Ok.some (j6k (fun h => Ok.some ?_) (fun h => ?_)))
 ·
  unfold lt; split <;> rename_i h1 <;> first | (split at h <;> simp_all <;> omega) | (simp at h) | skip
  all_goals (constructor <;> intro hx <;> first | omega | (split at hx <;> omega) | (split <;> omega))
 ·
  have he : a.Node = b.Node := by
   split at h
   · simp at h
   ·
    split at h
    · simp at h
    · omega
  rw [z2s, z2s]; refine Ok.bind (Ok.some (j6k (fun h1 => Ok.some ?_) (fun h1 => Ok.bind (Ok.some (j6k (fun h2 => Ok.some ?_) (fun h2 => Ok.some ?_))))))
  · simp only [decide_eq_true_eq] at h1; unfold lt; simp [he, h1.2.2]
  · simp only [decide_eq_true_eq, decide_eq_false_iff_not] at h1 h2; unfold lt; simp [he]; omega
  · simp only [decide_eq_false_iff_not] at h1 h2; unfold lt; simp [he]; exact Int.not_lt.1 fun hh => h1 ⟨ha, hb, hh⟩
theorem z2q {a b c : GPoint} (h : lt a b) (k : lt b c) : lt a c := by unfold lt at *; omega
theorem qw7 (a : GPoint) : ¬ lt a a := by unfold lt; omega
def Next (tb : List (List (List GHop))) (l : List GPoint) (i : Int) : Prop :=
 (i = -1 ∧ ∀ p ∈ l, ¬ Front tb l p) ∨ ∃ k : Nat, ∃ h : k < l.length, i = (k : Int) ∧ Front tb l l[k] ∧ ∀ p ∈ l, Front tb l p → ¬ lt p l[k]
def Best (tb : List (List (List GHop))) (l : List GPoint) (j : Nat) (i : Int) : Prop :=
 (i = -1 ∧ ∀ p ∈ l.take j, ¬ Front tb l p) ∨ ∃ k : Nat, ∃ h : k < l.length, i = (k : Int) ∧ Front tb l l[k] ∧ ∀ p ∈ l.take j, Front tb l p → ¬ lt p l[k]
theorem snoc {α : Type} {l : List α} {i : Nat} (h : i < l.length) : l.take (i + 1) = l.take i ++ [l[i]] := List.take_succ_eq_append_getElem h
section
variable {g : GGraph} (hG : VA.Good g) {r : GWave_runner} (hT : Tb g r.table) (hl : ∀ q ∈ r.pool.points, qf1 g q) (hll : r.pool.points.length < 1000000)
include hG hT hl hll
theorem zp4 {T : Type} {i : Nat} (hi : i < r.pool.points.length) {b : Int} (hb : Best r.table r.pool.points i b) {k : Int × Int → Option T} {Q : T → Prop} (hk : ∀ b', Best r.table r.pool.points (i + 1) b' → Ok (k (b', ((i + 1 : Nat) : Int))) Q) :
  Ok (q9 (idx r.pool.points (i : Int)) (fun (x : GPoint) =>
   (if (decide (b < 0)) = true then q9 (q57 r.table r.pool.points x) (fun (v : Bool) =>
    (if v = true then k ((i : Int), IntKind.i64.wrap ((i : Int) + 1)) else k (b, IntKind.i64.wrap ((i : Int) + 1))))
   else q9 (idx r.pool.points b) (fun (y : GPoint) => q9 (q8p x y) (fun (n : Int) =>
    (if (decide (n < 0)) = true then q9 (q57 r.table r.pool.points x) (fun (v : Bool) =>
     (if v = true then k ((i : Int), IntKind.i64.wrap ((i : Int) + 1)) else k (b, IntKind.i64.wrap ((i : Int) + 1))))
    else k (b, IntKind.i64.wrap ((i : Int) + 1)))))))) Q := by
 rw [iw hi (by omega)]; refine Ok.bind (j6l hi ?_); have hx := hl _ (List.getElem_mem hi); have hfr := zj7 hG hT hl (by omega) hx; have keep : ¬ Front r.table r.pool.points r.pool.points[i] → Ok (k (b, ((i + 1 : Nat) : Int))) Q := fun hn => hk b (by
  rcases hb with ⟨e, h⟩ | ⟨m, hm, e, h1, h2⟩
  ·
   refine .inl ⟨e, fun p hp => ?_⟩; rw [snoc hi, List.mem_append, List.mem_singleton] at hp; rcases hp with hp | rfl
   · exact h p hp
   · exact hn
  ·
   refine .inr ⟨m, hm, e, h1, fun p hp hf => ?_⟩; rw [snoc hi, List.mem_append, List.mem_singleton] at hp; rcases hp with hp | rfl
   · exact h2 p hp hf
   · exact absurd hf hn)
 refine j6k (fun hneg => ?_) (fun hneg => ?_)
 ·
  rw [hfr]; refine Ok.bind (Ok.some (j6k (fun h => hk _ ?_) (fun h => keep (by simpa using h)))); rcases hb with ⟨e, hb⟩ | ⟨m, hm, e, _⟩
  ·
   refine .inr ⟨i, hi, rfl, by simpa using h, fun p hp hf => ?_⟩; rw [snoc hi, List.mem_append, List.mem_singleton] at hp; rcases hp with hp | rfl
   · exact absurd hf (hb p hp)
   · exact qw7 _
  · simp only [decide_eq_true_eq] at hneg; omega
 ·
  rcases hb with ⟨e, hb⟩ | ⟨m, hm, rfl, h1, h2⟩
  · simp only [decide_eq_false_iff_not] at hneg; omega
  refine Ok.bind (j6l hm ?_); obtain ⟨_, _, _, o1, _⟩ := hx; obtain ⟨_, _, _, o2, _⟩ := hl _ (List.getElem_mem hm); refine j6j (z0q o1 o2) fun n hn => j6k (fun hlt => ?_) (fun hlt => hk _ ?_)
  ·
   rw [hfr]; have hlt' := hn.1 (by simpa using hlt); refine Ok.bind (Ok.some (j6k (fun h => hk _ ?_) (fun h => keep (by simpa using h)))); refine .inr ⟨i, hi, rfl, by simpa using h, fun p hp hf => ?_⟩; rw [snoc hi, List.mem_append, List.mem_singleton] at hp; rcases hp with hp | rfl
   · exact fun hh => h2 p hp hf (z2q hh hlt')
   · exact qw7 _
  ·
   refine .inr ⟨m, hm, rfl, h1, fun p hp hf => ?_⟩; rw [snoc hi, List.mem_append, List.mem_singleton] at hp; rcases hp with hp | rfl
   · exact h2 p hp hf
   · intro hh; have := hn.2 hh; simp only [decide_eq_false_iff_not] at hlt; exact hlt this
theorem zf3 : Ok (q0c r) fun v => v.2 = r ∧ Next r.table r.pool.points v.1 := by
 unfold q0c; refine j6m (fun s => ∃ i : Nat, s.2 = (i : Int) ∧ i ≤ r.pool.points.length ∧ Best r.table r.pool.points i s.1) (fun s => r.pool.points.length - s.2.toNat) ?_ ⟨0, rfl, Nat.zero_le _, .inl ⟨rfl, by simp⟩⟩ (by simp only [rounds]; omega); rintro rec ⟨b, _⟩ ⟨i, rfl, hi, hb⟩ hr; unfold q1l; refine j6k (fun h => ?_) (fun h => ?_)
 ·
  have hi' : i < r.pool.points.length := by simpa using h
  exact zp4 hG hT hl hll hi' hb fun b' hb' => hr _ ⟨i + 1, rfl, hi', hb'⟩ (by simp only [Int.toNat_natCast]; omega)
 ·
  obtain rfl : i = r.pool.points.length := by simp at h; omega
  refine Ok.some ⟨rfl, ?_⟩
  simpa only [Best, Next, List.take_length] using hb
end
end WV
end Go.Proofs.YtghbgjnmccjhdaaGreat
