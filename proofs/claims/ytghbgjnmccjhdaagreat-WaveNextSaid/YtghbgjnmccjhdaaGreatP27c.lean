/-
  The law in plain words: what its plain function gives is true. No condition beyond those that each theorem names.
-/
import Derived.Test.YtghbgjnmccjhdaaGreatWalkWN1
import Derived.Test.YtghbgjnmccjhdaaGreatWalkWN0
import Derived.Test.YtghbgjnmccjhdaaGreatP27b
set_option linter.unusedSimpArgs false
set_option linter.unusedVariables false
set_option linter.unusedSectionVars false
namespace Go.Proofs.YtghbgjnmccjhdaaGreat
open Go Go.RowKit TS VA BG
namespace WV
open Classical
theorem zn2 (k : Int) : ports k ≤ 2 := by unfold ports; repeat' split <;> try omega
theorem j21 {g : GGraph} (hG : VA.Good g) {tb : List (List (List GHop))} (hT : Tb g tb) {p : GPoint} {n : Nat} (hn : n < g.Nodes.length) (hpn : p.Node = (n : Int)) (ht : ok p.Time) {u : GTime} (hD : p.Time.D = (HP.lev g n : Int)) (hu : ok u)
  (hue : ∀ e ∈ g.Edges, e.From.toNat = n → u = HP.tm (HP.th (lst p.Time) (HP.stepE g e).2 (HP.stepE g e).1)) {e : GEdge} (he : e ∈ g.Edges) (hf : e.From = p.Node) :
  qf1 g ⟨e.To, u⟩ ∧ R tb p ⟨e.To, u⟩ = true ∧ (e.Port = 0 ∨ e.Port = 1) := by
 obtain ⟨e1, e2, _, e4, _⟩ := hG.ed.at he; have hfn : e.From.toNat = n := by rw [hf, hpn]; rfl
 have hto : e.To.toNat < g.Nodes.length := by have := e2.1; have := e2.2; omega
 have h := hue e he hfn; have hst : HP.Rp (HP.lev g e.From.toNat : Int) (HP.lev g e.To.toNat) (HP.stepE g e) := (HP.step_eq hG he).1; have hll := HP.lst_len ht; have hk := hst.1.kl; have hkf := hst.1.kf; refine ⟨⟨e.To.toNat, hto, by have := e2.1; show e.To = _; omega, hu, ?_⟩, ?_, ?_⟩
 ·
  show u.D = _
  rw [h]
  show ((HP.th (lst p.Time) (HP.stepE g e).2 (HP.stepE g e).1).length : Int) = _
  rw [HP.th_len (by rw [hfn] at hkf; omega) hk, hst.2]
 ·
  obtain ⟨tbl, rfl, hF⟩ := hT; have := HP.Reaches_step hG hF he ht (by rw [hfn]; exact hD) (by rw [← h]; exact hu); unfold R; rw [← hf]
  show (q1q (HP.tblL g tbl g.Nodes.length) e.From p.Time e.To u).getD false = true
  rw [h, this]; rfl
 · have := zn2 (ndI g e.To).Kind; omega
structure Gave (g : GGraph) (p : GPoint) (r : GWave_runner) (T : Int) (v : GWave_runner) : Prop where
 gr : v.g = r.g
 table : v.table = r.table
 past : v.past = r.past
 waves : v.waves = r.waves
 outs : v.outs.length ≤ r.outs.length + 65536
 work : r.work ≤ v.work ∧ v.work ≤ r.work + 6553600
 pool : Pool g v.pool.points v.pool.in_ (T + (v.work - r.work))
 many : (v.pool.points.length : Int) ≤ r.pool.points.length + (v.work - r.work)
 sub : ∀ q ∈ v.pool.points, q ∈ r.pool.points ∨ R r.table p q = true
 sup : ∀ q ∈ r.pool.points, q ∈ v.pool.points
structure Mid (g : GGraph) (p : GPoint) (r : GWave_runner) (T : Int) (i : Nat) (b : Int) (pts : List GPoint) (ins : List (Arr2 (List GItem))) : Prop where
 work : r.work ≤ b ∧ b ≤ r.work + 65536 * i
 pool : Pool g pts ins (T + (b - r.work))
 many : (pts.length : Int) ≤ r.pool.points.length + (b - r.work)
 sub : ∀ q ∈ pts, q ∈ r.pool.points ∨ R r.table p q = true
 sup : ∀ q ∈ r.pool.points, q ∈ pts
theorem zv6 {g : GGraph} (hG : VA.Good g) {r : GWave_runner} (hT : Tb g r.table) (hg : r.g = g) {T : Int} (hP : Pool g r.pool.points r.pool.in_ T) {p : GPoint} (hp : qf1 g p) {out : List GItem} (ho : CE.Fine out) (hTT : T ≤ 10000000) (hw : 0 ≤ r.work ∧ r.work ≤ 10000000)
  (hou : r.outs.length ≤ 1000000000) : Ok (q0i r p out) fun v => Gave g p r T v.2 := by
 obtain ⟨n, hn, hpn, ht, hD⟩ := hp; obtain ⟨hof, hot⟩ := Fn.of ho; have hol := hof.len; have hel := hG.el; have hnl := hG.nl; unfold q0i; rw [hg, hpn]; refine Ok.bind (j6l hn (j6k (fun _ => ?_) (fun _ => ?_)))
 ·
  refine j6j (j2j (by omega)) fun v hv => ?_; have hvl : v.1.length ≤ 65536 := by
   by_cases h : tot (there out) ≤ 65536
   · rw [hv.1 h]; have := qv6 (z0k out).2; simp only; omega
   · rw [hv.2 (by omega)]; simp
  refine Ok.each (l := v.1) (by omega) (fun i a => a.length = r.outs.length + i) 0 (fun rec i hi a _ hI hrec => ?_) (fun rec a hI => ?_) rfl (Nat.zero_le _)
  · unfold q0v; dsimp only; rw [if_pos (by simpa using hi)]; refine Ok.bind (j6l hi (Ok.guard (by simp; omega) ?_)); rw [iw hi (by omega)]; exact hrec _ (by simp; omega)
  ·
   unfold q0v; dsimp only; rw [if_neg (by simp)]; refine Ok.some ⟨rfl, rfl, rfl, rfl, by simp only; omega, by simp only; omega, ?_, by simp, fun q hq => .inl hq, fun q hq => hq⟩
   simpa using hP
 unfold q0u; rw [hg, hpn]; refine j6j (UN.Gives_ok hG hn ht) fun v hv => j6k (fun _ => Ok.some ⟨rfl, rfl, rfl, rfl, by simp only; omega, by simp only; omega, by simpa using hP, by simp, fun q hq => .inl hq, fun q hq => hq⟩) (fun hv2 => ?_); obtain ⟨_, hu, hue⟩ := hv (by simpa using hv2); refine Ok.each (l := g.Edges) (s0 := (r.work, r.pool.points, r.pool.in_)) (by omega) (fun i s => Mid g p r T i s.1 s.2.1 s.2.2) 0 (fun rec i hi s _ hI hrec => ?_) (fun rec s hI => ?_) ⟨by simp, by simpa using hP, by simp, fun q hq => .inl hq, fun q hq => hq⟩ (Nat.zero_le _)
 ·
  obtain ⟨b, pts, ins⟩ := s; obtain ⟨hb, hpl, hm, hsub, hsup⟩ := hI; dsimp only at hb hpl hm hsub hsup; unfold q0h; dsimp only; rw [hg, if_pos (by simpa using hi)]; refine Ok.bind (j6l hi ?_); rw [iw hi (by omega), z06 hof (by omega)]; refine j6k (fun hf => ?_) (fun _ => hrec _ ⟨⟨hb.1, by dsimp only; omega⟩, hpl, hm, hsub, hsup⟩); refine j6k (fun h0 => ?_) (fun h0 => ?_)
  ·
   have hz : out = [] := by simpa using h0
   refine Ok.bind (Ok.some (hrec _ ?_)); have : tot out = 0 := by rw [hz]; rfl
   rw [this, Int.add_zero, wrap_i64 b (by omega)]; exact ⟨⟨hb.1, by dsimp only; omega⟩, hpl, hm, hsub, hsup⟩
  ·
   have hnz : out ≠ [] := by simpa using h0
   have h1 := zd8 hof hnz; obtain ⟨hq, hR, hport⟩ := j21 hG hT hn hpn ht hD hu hue (List.getElem_mem hi) (by simpa using hf); refine z3r (J := fun i' pts' ins' => q07 out (i : Int) b rec g.Edges[i] i' pts' ins') hpl hq (by omega) fun k pts' ins' hs => ?_; have hk : k < ins'.length := by rw [hs.len]; exact hs.hi
   have hx := hs.bag _ (List.getElem_mem hk); have hx0 := hs.pos0 _ (List.getElem_mem hk); have hxe := hs.each _ (List.getElem_mem hk); have hgl := hs.grow; unfold bt at hxe; have fin : ∀ x : Arr2 (List GItem), Fn x.a0 ∧ Fn x.a1 → bt x = bt ins'[k] + tot out → Ok (rec (((i + 1 : Nat) : Int), IntKind.i64.wrap (b + tot out), pts', ins'.set k x)) fun v => Gave g p r T v.2 := fun x hfx hbx => by
    rw [wrap_i64 (b + tot out) (by omega)]; refine hrec (_, _, _) ⟨by dsimp only; omega, ?_, by dsimp only; omega, fun q hq => ?_, fun q hq => hs.sup q (hsup q hq)⟩
    · dsimp only; rw [show T + (b + tot out - r.work) = T + (b - r.work) + tot out by omega]; exact hs.set hfx h1 hbx
    ·
     rcases hs.sub q hq with h | rfl
     · exact hsub q h
     · exact .inr hR
   unfold q07; rw [iw hi (by omega), z06 hof (by omega)]; refine Ok.bind (j6l hk (Ok.guard (by omega) ?_)); rw [Int.toNat_natCast]; rcases hport with h | h <;> rw [h]
   ·
    refine Ok.bind (Ok.some (j6j (z0i hx.1 hof (by omega)) fun c hc => Ok.guard (by omega) (Ok.bind (Ok.some (Ok.bind (Ok.some (Ok.bind (Ok.some (fin _ ⟨hc.1, hx.2⟩ ?_)))))))))
    show tot c + tot ins'[k].a1 = bt ins'[k] + tot out
    unfold bt; omega
   ·
    refine Ok.bind (Ok.some (j6j (z0i hx.2 hof (by omega)) fun c hc => Ok.guard (by omega) (Ok.bind (Ok.some (Ok.bind (Ok.some (Ok.bind (Ok.some (fin _ ⟨hx.1, hc.1⟩ ?_)))))))))
    show tot ins'[k].a0 + tot c = bt ins'[k] + tot out
    unfold bt; omega
 · obtain ⟨b, pts, ins⟩ := s; obtain ⟨hb, hpl, hm, hsub, hsup⟩ := hI; dsimp only at hb hpl hm hsub hsup; unfold q0h; dsimp only; rw [hg, if_neg (by simp)]; unfold q0t; rw [z06 hof (by omega)]; exact Ok.bind (Ok.some (Ok.some ⟨hg.symm ▸ rfl, rfl, rfl, rfl, by dsimp only; omega, by dsimp only; omega, hpl, hm, hsub, hsup⟩))
end WV
end Go.Proofs.YtghbgjnmccjhdaaGreat
