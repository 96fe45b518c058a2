/-
  The law in plain words: what its plain function gives is true. No condition beyond those that each theorem names.
-/
import Derived.Test.YtghbgjnmccjhdaaGreatWalkWN1
import Derived.Test.YtghbgjnmccjhdaaGreatP27c
set_option linter.unusedSimpArgs false
set_option linter.unusedVariables false
set_option linter.unusedSectionVars false
namespace Go.Proofs.YtghbgjnmccjhdaaGreat
open Go Go.RowKit TS VA BG
namespace WV
open Classical
theorem zs5 {α : Type} {f : α → Int} {l : List α} {i : Nat} (hi : i < l.length) : ((l.take (i + 1)).map f).sum = ((l.take i).map f).sum + f l[i] := by
 rw [snoc hi, List.map_append, List.sum_append]; simp
theorem zs6 {α : Type} {f : α → Int} {l : List α} (h : ∀ x ∈ l, 0 ≤ f x) (i : Nat) : ((l.take i).map f).sum ≤ (l.map f).sum ∧ 0 ≤ ((l.take i).map f).sum := by
 have e : (l.map f).sum = ((l.take i).map f).sum + ((l.drop i).map f).sum := by rw [← List.sum_append, ← List.map_append, List.take_append_drop]
 have nn : ∀ {m : List α}, (∀ x ∈ m, 0 ≤ f x) → 0 ≤ (m.map f).sum := fun {m} hm => by
  cases m with
  | nil => simp
  | cons y m => exact (z2m hm y (by simp)).2
 have h1 := nn (m := l.drop i) fun x hx => h x (List.mem_of_mem_drop hx); have h2 := nn (m := l.take i) fun x hx => h x (List.mem_of_mem_take hx); omega
theorem z4e {g : GGraph} {r : GWave_runner} {T : Int} (hP : Pool g r.past.points r.past.in_ T) (hT : T ≤ 10000000) (p : GPoint) : Ok (q08 r p) fun v => v.2 = r ∧ Fn v.1 ∧ tot v.1 ≤ T := by
 have hm := hP.many; have hl := hP.len; have hb0 : ∀ x ∈ r.past.in_, 0 ≤ bt x := fun x hx => by have := hP.pos x hx; omega
 unfold q08; refine Ok.each (l := r.past.points) (by omega) (fun i a => Fn a ∧ tot a ≤ ((r.past.in_.take i).map bt).sum) 0 (fun rec i hi a _ hI hrec => ?_) (fun rec a hI => ?_) ⟨Fn.nil, by simp [tot]⟩ (Nat.zero_le _)
 ·
  have hi2 : i < r.past.in_.length := by omega
  have h1 := zs5 (f := bt) hi2; have h2 := zs6 (f := bt) hb0 (i + 1); have h3 := hP.bag _ (List.getElem_mem hi2); have h4 := h3.1.len; have h5 := h3.2.len; have htt := hP.tot; have h6 : tot r.past.in_[i].a0 ≤ bt r.past.in_[i] ∧ 0 ≤ bt r.past.in_[i] := by unfold bt; omega
  unfold q0p; dsimp only; rw [if_pos (by simpa using hi), iw hi (by omega)]; have hgo : Ok (rec (((i + 1 : Nat) : Int), a)) fun v => v.2 = r ∧ Fn v.1 ∧ tot v.1 ≤ T := hrec _ ⟨hI.1, by omega⟩; refine Ok.bind (j6l hi (j6k (fun _ => ?_) (fun _ => hgo))); rw [TS.le_eq]; refine Ok.bind (Ok.some (j6k (fun _ => ?_) (fun _ => hgo))); refine Ok.bind (j6l hi2 ?_); exact j6j (z0i hI.1 h3.1 (by omega)) fun c hc => hrec _ ⟨hc.1, by omega⟩
 · unfold q0p; dsimp only; rw [if_neg (by simp)]; have := hP.tot; rw [← hl, List.take_length] at hI; exact Ok.some ⟨rfl, hI.1, by dsimp only; omega⟩
def j0h (g : GGraph) (p : GPoint) (r : GWave_runner) (T : Int) (v : Bool × GWave_runner) : Prop :=
 v.1 = true → ∃ u w, Gave g p r T u ∧ w.Point = p ∧ v.2 = ⟨u.pool, u.g, u.table, u.past, u.work, u.waves ++ [w], u.outs⟩
section
variable {g : GGraph} (hG : VA.Good g) {r : GWave_runner} (hT : Tb g r.table) (hg : r.g = g) (hw : 0 ≤ r.work ∧ r.work ≤ 10000000) (hou : r.outs.length ≤ 1000000000) (hwv : r.waves.length ≤ 1000000000)
include hG hT hg hw hou hwv
theorem zi9 {T : Int} (hP : Pool g r.pool.points r.pool.in_ T) {p : GPoint} (hp : qf1 g p) (hTT : T ≤ 10000000) {x : Arr2 (List GItem)} (hx : Fn x.a0 ∧ Fn x.a1) (hbx : bt x ≤ 10000000) {a b : List GItem} (la : a.length ≤ 60000) (lb : b.length ≤ 60000) :
  Ok (q03 p x [a, b] r.g.Parent r.g.Bound r.g.Nodes r.g.Edges r.table r.work r.pool.points r.pool.in_ r.past.points r.past.in_ r.waves r.outs) (j0h g p r T) := by
 have hp' := hp; obtain ⟨n, hn, hpn, _, _⟩ := hp'; have h1 := hx.1.len; have h2 := hx.2.len; unfold bt at hbx; unfold q03; refine Ok.bind ?_; rw [hpn]; refine j6l (by rw [hg]; exact hn) (j6j (CE.Apply_fact la lb) fun v hv => j6k (fun _ => Ok.some fun h => by cases h) (fun _ => ?_)); rw [z06 hx.1 (by omega), z06 hx.2 (by omega)]; refine Ok.bind (Ok.some (Ok.bind (Ok.some (j6j (zv6 (r := r) hG hT hg hP hp hv hTT hw hou) fun u hu => ?_)))); have hwl : u.2.waves.length = r.waves.length := by rw [hu.waves]
 exact Ok.guard (by simp; omega) (Ok.some fun _ => ⟨_, _, hu, rfl, rfl⟩)
end
structure Left (g : GGraph) (p : GPoint) (r v : GWave_runner) (T : Int) : Prop where
 gr : v.g = r.g
 table : v.table = r.table
 waves : ∃ w, v.waves = r.waves ++ [w] ∧ w.Point = p
 outs : v.outs.length ≤ r.outs.length + 65536
 work : r.work ≤ v.work ∧ v.work ≤ r.work + 6553600
 pools : ∃ T1 T2, T1 + T2 ≤ T + (v.work - r.work) ∧ Pool g v.pool.points v.pool.in_ T1 ∧ Pool g v.past.points v.past.in_ T2
 many : (v.pool.points.length : Int) + 1 ≤ r.pool.points.length + (v.work - r.work)
 sub : ∀ q ∈ v.pool.points, q ∈ r.pool.points ∧ q ≠ p ∨ R r.table p q = true
 sup : ∀ q ∈ r.pool.points, q ≠ p → q ∈ v.pool.points
theorem j1h {g : GGraph} (hG : VA.Good g) {r : GWave_runner} (hT : Tb g r.table) (hg : r.g = g) (hw : 0 ≤ r.work ∧ r.work ≤ 1000000) (hou : r.outs.length ≤ 1000000000) (hwv : r.waves.length ≤ 1000000000)
  {T1 T2 : Int} (hP : Pool g r.pool.points r.pool.in_ T1) (hQ : Pool g r.past.points r.past.in_ T2) (hTT : T1 + T2 ≤ 50000) {i : Nat} (hi : i < r.pool.points.length) :
  Ok (q0l r (i : Int)) fun v => v.1 = true → Left g r.pool.points[i] r v.2 (T1 + T2) := by
 have hpl := hP.len; have hpm := hP.many; have hqm := hQ.many; have hql := hQ.len; have hi2 : i < r.pool.in_.length := by omega
 have hp := hP.pt _ (List.getElem_mem hi); have hx := hP.bag _ (List.getElem_mem hi2); have hxe := hP.each _ (List.getElem_mem hi2); have hxp := hP.pos _ (List.getElem_mem hi2); have h0 := hx.1.len; have h1 := hx.2.len; have hD := hP.del hi; have hD0 := hD.many; obtain ⟨n, hn, hpn, ht, hpD⟩ := hp; have hp : qf1 g r.pool.points[i] := ⟨n, hn, hpn, ht, hpD⟩; have hmem : ∀ q, q ∈ r.pool.points.take i ++ r.pool.points.drop (i + 1) ↔ q ∈ r.pool.points ∧ q ≠ r.pool.points[i] := fun q => by
  have e : r.pool.points = r.pool.points.take i ++ r.pool.points[i] :: r.pool.points.drop (i + 1) := by
   rw [← List.drop_eq_getElem_cons hi, List.take_append_drop]
  have hnd := hP.nd
  constructor
  ·
   intro hq; refine ⟨by rcases List.mem_append.1 hq with h | h <;> first | exact List.mem_of_mem_take h | exact List.mem_of_mem_drop h, fun he => ?_⟩; rw [e] at hnd; obtain ⟨_, n2, n3⟩ := List.nodup_append.1 hnd; rcases List.mem_append.1 hq with h | h
   · exact n3 q h _ List.mem_cons_self he
   · exact (List.nodup_cons.1 n2).1 (he ▸ h)
  ·
   rintro ⟨hq, hne⟩; rw [e] at hq; rcases List.mem_append.1 hq with h | h
   · exact List.mem_append_left _ h
   ·
    rcases List.mem_cons.1 h with h | h
    · exact absurd h hne
    · exact List.mem_append_right _ h
 have hlen : (r.pool.points.take i ++ r.pool.points.drop (i + 1)).length + 1 = r.pool.points.length := by simp; omega
 have hbt : bt r.pool.in_[i] = tot r.pool.in_[i].a0 + tot r.pool.in_[i].a1 := rfl
 -- what is left, if what came has gone to the past or not
 have fin : ∀ (r' : GWave_runner) (T1' T2' : Int), r'.g = r.g → r'.table = r.table → r'.waves = r.waves → r'.outs = r.outs → r'.work = r.work → r'.pool.points = r.pool.points.take i ++ r.pool.points.drop (i + 1) → T1' + T2' ≤ T1 + T2 →
   Pool g r'.past.points r'.past.in_ T2' → ∀ v, j0h g r.pool.points[i] r' T1' v → (v.1 = true → Left g r.pool.points[i] r v.2 (T1 + T2)) := by
  intro r' T1' T2' e1 e2 e3 e4 e5 e6 hTs hpast v hM hv; obtain ⟨u, w, hu, hwp, rfl'⟩ := hM hv; rw [rfl']; refine ⟨hu.gr.trans e1, hu.table.trans e2, ⟨w, by rw [← e3, ← hu.waves], hwp⟩, by have := hu.outs; rw [e4] at this; exact this, by have := hu.work; rw [e5] at this; exact this, ⟨_, T2', ?_, hu.pool, ?_⟩, ?_, fun q hq => ?_, fun q hq hne => ?_⟩
  ·
   show T1' + (u.work - r'.work) + T2' ≤ T1 + T2 + (u.work - r.work)
   rw [e5]; omega
  ·
   show Pool g u.past.points u.past.in_ T2'
   rw [hu.past]; exact hpast
  ·
   have := hu.many; rw [e5, e6] at this
   show (u.pool.points.length : Int) + 1 ≤ r.pool.points.length + (u.work - r.work)
   omega
  ·
   rcases hu.sub q hq with h | h
   · rw [e6] at h; exact .inl ((hmem q).1 h)
   · rw [e2] at h; exact .inr h
  · exact hu.sup q (by rw [e6]; exact (hmem q).2 ⟨hq, hne⟩)
 unfold q0l q6p q6q qv5; rw [iw hi (by omega)]; refine Ok.bind (j6l hi (Ok.bind (j6l hi2 (Ok.bind (Ok.guard (by omega) (Ok.some (Ok.bind (Ok.guard (by omega) (Ok.some (Ok.guard (by omega) (Ok.bind ?_))))))))))); rw [hpn, hg, Int.toNat_natCast, Int.toNat_natCast]; refine j6l hn (j6k (fun _ => j6k (fun hz => ?_) (fun hz => ?_)) (fun _ => ?_))
 · refine j6j (z4e (g := g) (r := ⟨⟨r.pool.points.take i ++ r.pool.points.drop (i + 1), r.pool.in_.take i ++ r.pool.in_.drop (i + 1)⟩, g, r.table, r.past, r.work, r.waves, r.outs⟩) hQ (by omega) _) fun v ⟨v1, v2, v3⟩ => ?_; have h2 := v2.len; rw [v1]; exact (zi9 hG (r := ⟨⟨r.pool.points.take i ++ r.pool.points.drop (i + 1), r.pool.in_.take i ++ r.pool.in_.drop (i + 1)⟩, g, r.table, r.past, r.work, r.waves, r.outs⟩) hT rfl (by dsimp only; omega) hou hwv hD hp (by omega) hx (by omega) (by omega) (by omega)).mono (fin _ _ T2 hg.symm rfl rfl rfl rfl rfl (by omega) hQ)
 ·
  have hz' : r.pool.in_[i].a0 ≠ [] := by simpa using hz
  have h3 := zd8 hx.1 hz'; refine z3r (J := fun i' pts' ins' => q09 r r.pool.points[i] r.pool.in_[i] (r.pool.points.take i ++ r.pool.points.drop (i + 1)) (r.pool.in_.take i ++ r.pool.in_.drop (i + 1)) i' pts' ins') hQ hp (by omega) fun k pts' ins' hs => ?_; have hk : k < ins'.length := by rw [hs.len]; exact hs.hi
  have hy := hs.bag _ (List.getElem_mem hk); have hy0 := hs.pos0 _ (List.getElem_mem hk); have hye := hs.each _ (List.getElem_mem hk); unfold bt at hye; unfold q09; refine Ok.bind (j6l hk (j6j (z0i hy.1 hx.1 (by omega)) fun c hc => ?_)); rw [Int.toNat_natCast]; have hnew := hs.set (x := ⟨c, ins'[k].a1⟩) (m := tot r.pool.in_[i].a0) ⟨hc.1, hy.2⟩ h3 (by show tot c + tot ins'[k].a1 = tot ins'[k].a0 + tot ins'[k].a1 + _; omega); refine j6j (z4e (g := g) (r := ⟨⟨r.pool.points.take i ++ r.pool.points.drop (i + 1), r.pool.in_.take i ++ r.pool.in_.drop (i + 1)⟩, r.g, r.table, ⟨pts', ins'.set k ⟨c, ins'[k].a1⟩⟩, r.work, r.waves, r.outs⟩) hnew (by omega) _) fun v ⟨v1, v2, v3⟩ => ?_; have h2 := v2.len; rw [v1]; exact (zi9 hG (r := ⟨⟨r.pool.points.take i ++ r.pool.points.drop (i + 1), r.pool.in_.take i ++ r.pool.in_.drop (i + 1)⟩, r.g, r.table, ⟨pts', ins'.set k ⟨c, ins'[k].a1⟩⟩, r.work, r.waves, r.outs⟩) hT hg (by dsimp only; omega) hou hwv hD hp (by omega) hx (by omega) (by omega) (by omega)).mono (fin _ _ _ rfl rfl rfl rfl rfl rfl (by omega) hnew)
 · exact (zi9 hG (r := ⟨⟨r.pool.points.take i ++ r.pool.points.drop (i + 1), r.pool.in_.take i ++ r.pool.in_.drop (i + 1)⟩, g, r.table, r.past, r.work, r.waves, r.outs⟩) hT rfl (by dsimp only; omega) hou hwv hD hp (by omega) hx (by omega) (by omega) (by omega)).mono (fin _ _ T2 hg.symm rfl rfl rfl rfl rfl (by omega) hQ)
end WV
end Go.Proofs.YtghbgjnmccjhdaaGreat
