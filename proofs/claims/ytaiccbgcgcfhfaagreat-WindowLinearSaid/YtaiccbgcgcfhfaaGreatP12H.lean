/-
  The law in plain words: what its plain function gives is true. No condition beyond those that each theorem names.
-/
import Derived.Test.YtaiccbgcgcfhfaaGreatWalkWL1
import Derived.Test.YtaiccbgcgcfhfaaGreatP12G
import Derived.Test.YtaiccbgcgcfhfaaGreatP12d
set_option linter.unusedSimpArgs false
set_option linter.unusedVariables false
set_option linter.unusedSectionVars false
open List renaming flatMap_cons -> Xa, length_map -> Xb, map_congr_left -> Xc, mem_singleton -> Xd, mem_map -> Xe
namespace Go.Proofs.YtaiccbgcgcfhfaaGreat
open Go Go.RowKit TS VA BG
namespace MN
open Classical
theorem tumbled {f : GFeed} {size : Int} (he : 0 <= f.Epoch /\ f.Epoch <= 1048576) (hs : WH.okSizes size size) : WH.wins f size size = [⟨f.Node, f.Epoch / size, f.Rec⟩] := by
 have hl := WH.wins_tumbled he hs; simp only [WH.wins, Xb, List.length_range] at hl; unfold WH.wins; rw [hl]; have : WH.first f.Epoch size size = f.Epoch / size := by omega
 rw [this]; simp [List.range_succ]
theorem zn3 {α β : Type} {F : α -> List β} {G : α -> β} : ∀ {l : List α}, (∀ x ∈ l, F x = [G x]) -> l.flatMap F = l.map G
 | [], _ => rfl
 | x :: l, h => by
  rw [Xa, h x (by simp), zn3 fun y hy => h y (by simp [hy])]; rfl
theorem zw0 {α β : Type} {F G : α -> List β} : ∀ {l : List α}, (∀ x ∈ l, F x = G x) -> l.flatMap F = l.flatMap G
 | [], _ => rfl
 | x :: l, h => by rw [Xa, Xa, h x (by simp), zw0 fun y hy => h y (by simp [hy])]
theorem zu9 {g : GGraph} {X : List GFeed} {most : Int} (ha : Ask g X most) (hl : X.length <= 1000) : ∀ o ∈ (q18 g most X).outs, o.Epoch ∈ X.map (·.Epoch) := fun o ho => by
 obtain ⟨m, h1, h2⟩ := (z4r ha.1 (most := most) (qg5 X) _ (z0i ha.1 X ha.2.2.2)).2.outs; have h3 : (q18 g most X).outs = (q3m X).outs ++ m := h1; rw [h3, (z02 X hl).2.2.2.2.1, List.nil_append] at ho; exact ((qo8 X).mem _).1 (h2 o ho)
theorem j9t (k : Int) : OP.linS k = WH.linB k := Option.some.inj ((OP.linS_eq k).symm.trans (WH.opsLinear_eq k))
theorem WindowLinear_holds (g : GGraph) (l : List GFeed) (size : Int) (_ : Dat.ok g) (_ : Dat.ok l) (_ : inI .i64 size) : q39 g l size = some true := by
 unfold q39; rw [WH.awake_ok]; refine Ok.eq (Ok.bind (Ok.some ?_)); rw [if_neg (by simp)]; refine jk9 (WH.Short_ok g) fun b hb => jl0 (fun _ => Ok.some rfl) (fun hs => ?_); have hs' : b = true /\ l.length <= 40 := by
  simp only [Bool.or_eq_false_iff, Bool.not_eq_false', decide_eq_false_iff_not] at hs; exact ⟨hs.1, by omega⟩
 obtain ⟨hb1, hl⟩ := hs'; rw [WH.winLinear_eq g (hb hb1)]; refine Ok.bind (Ok.some (jl0 (fun _ => Ok.some rfl) (fun hx => ?_))); have hlin : ∀ n, n < g.Nodes.length -> OP.linS (nd g n).Kind = true := fun n hn => by
  rw [j9t]; have hx : (g.Nodes.all fun x => WH.linB x.Kind) = true := by simpa using hx
  have := List.all_eq_true.1 hx g.Nodes[n] (List.getElem_mem hn); rw [qd6 hn] at this; exact this
 have h14 : ∀ n, n < g.Nodes.length -> (nd g n).Kind ≠ 14 := fun n hn h => by
  have := hlin n hn; rw [h] at this; exact absurd this (by decide)
 obtain ⟨v, hv, rfl, hvS⟩ := zq4 g hlin l (most := 2000) (by omega) (by omega); refine Ok.bind (jl3 hv ?_); refine jk9 (WH.Tumble_ok l size (by omega)) fun t ht => jl0 (fun _ => Ok.some rfl) (fun he => ?_); have he' : (z0q g l 2000).2 = 0 /\ t.2 = 0 := by simpa using he
 obtain ⟨he1, he2⟩ := he'; have hask : Ask g l 2000 := Classical.byContradiction fun h => by unfold z0q at he1; rw [if_neg h] at he1; exact absurd he1 (by decide)
 have hz : (q18 g 2000 l).e = 0 := by
  unfold z0q at he1; rw [if_pos hask] at he1
  split at he1
  . rename_i h; exact absurd he1 h
  . rename_i h; exact Classical.not_not.1 h
 unfold WH.Slid at ht; rcases ht with ⟨_, h, _⟩ | ⟨⟨hok, hall⟩, ⟨_, h, _⟩ | ⟨_, hm, _⟩⟩
 . omega
 . omega
 have hm : t.1 = l.map fun f => (⟨f.Node, f.Epoch / size, f.Rec⟩ : GFeed) := by rw [hm]; exact zn3 fun f hf => tumbled (hall f hf) hok
 have hsz := hok.1; have hepr : ∀ f ∈ l, 0 <= f.Epoch / size /\ f.Epoch / size <= 1048576 := fun f hf => by
  have h1 := hall f hf; have h2 : 0 <= f.Epoch / size := Int.ediv_nonneg (by omega) (by omega); have h3 : f.Epoch / size <= f.Epoch := Int.ediv_le_self _ (by omega); omega
 have hone : ∀ f ∈ l, Ask g [f] 2000 := fun f hf => z5w hask fun x hx => by rw [Xd.1 hx]; exact hf
 have hmv := fun f hf => j20 (hone f hf) (hepr f hf) h14; rw [hm]
 generalize hM : (l.map fun f => (⟨f.Node, f.Epoch / size, f.Rec⟩ : GFeed)) = M at *
 have hMl : M.length = l.length := by rw [<- hM, Xb]
 have haskM : Ask g M 2000 := ⟨hask.1, hask.2.1, hask.2.2.1, fun x hx => by
  rw [<- hM] at hx; obtain ⟨f, hf, rfl⟩ := Xe.1 hx; exact (hmv f hf).1.2.2.2 _ (by simp)⟩
 obtain ⟨r, hS, hr⟩ := hvS hask; have hre : r.e = 0 := by
  have : (ab r).e = 0 := by rw [hr]; exact hz
  exact this
 have hrw : (q18 g 2000 l).work = r.work := by rw [<- hr]; rfl
 have hwm := hS.wm hre; have hpot := hS.inv.pot; have hsum := hS.inv.sums; have hro : (q18 g 2000 l).outs = r.outs := by rw [<- hr]; rfl
 have hlin2 : ∀ n, n < g.Nodes.length -> OP.linS (nd g n).Kind = true /\ (nd g n).Kind ≠ 14 := fun n hn => ⟨hlin n hn, h14 n hn⟩; obtain ⟨a1, a2, a3⟩ := z2n (by omega) hlin2 hask (by omega) hz; have hwk : (M.map fun f => (q18 g 2000 [f]).work).sum = (q18 g 2000 l).work := by
  rw [a3, <- hM, List.map_map]
  congr 1
  exact Xc fun f hf => (hmv f hf).2.2.1
 have hzM : (q18 g 2000 M).e = 0 := z7u (by omega) hlin2 haskM (by omega) (fun x hx => by
  rw [<- hM] at hx; obtain ⟨f, hf, rfl⟩ := Xe.1 hx; rw [(hmv f hf).2.1]; exact a1 f hf) (by rw [hwk, hrw]; exact hwm)
 obtain ⟨_, b2, _⟩ := z2n (by omega) hlin2 haskM (by omega) hzM; have hperm : (q18 g 2000 M).outs.Perm ((q18 g 2000 l).outs.map (WH.upd size)) := by
  refine b2.trans ?_; have h1 : (M.flatMap fun f => (q18 g 2000 [f]).outs) = (l.flatMap fun f => (q18 g 2000 [f]).outs).map (WH.upd size) := by
   rw [<- hM, List.flatMap_map, List.map_flatMap]; refine zw0 fun f hf => ?_; rw [(hmv f hf).2.2.2]; refine Xc fun o ho => ?_; have := zu9 (hone f hf) (by simp) o ho; simp only [List.map_cons, List.map_nil, Xd] at this; unfold WH.upd; rw [this]
  rw [h1]; exact (a2.map _).symm
 obtain ⟨w, hw, rfl, hwS⟩ := zq4 g hlin M (most := 2000) (by omega) (by omega); obtain ⟨r2, hS2, hr2⟩ := hwS haskM; have hpot2 := hS2.inv.pot; have hsum2 := hS2.inv.sums; have hwx2 := hS2.wx; have hro2 : (q18 g 2000 M).outs = r2.outs := by rw [<- hr2]; rfl
 refine Ok.bind (jl3 hw ?_); have e1 : z0q g l 2000 = (q8o (q18 g 2000 l).outs, 0) := by unfold z0q; rw [if_pos hask, if_neg (fun h => h hz)]
 have e2 : z0q g M 2000 = (q8o (q18 g 2000 M).outs, 0) := by unfold z0q; rw [if_pos haskM, if_neg (fun h => h hzM)]
 rw [e1, e2]; have p1 := (zb5 (outs := (q18 g 2000 l).outs) (by rw [hro]; omega)).2; obtain ⟨_, p2⟩ := z2k (outs := (q18 g 2000 M).outs) (by rw [hro2]; omega); have hlen1 := p1.length_eq; have hlen2 := p2.perm.length_eq; refine jk9 (WH.Gather_ok (q8o (q18 g 2000 l).outs) size (by rw [hlen1, hro]; omega)) fun c hc => ?_; rcases hc with ⟨_, hno⟩ | ⟨_, hc2, hcp, hcs⟩
 .
  exfalso
  refine hno ⟨⟨hsz, hok.2.1⟩, fun o ho => ?_⟩; have h1 := zu9 hask (by omega) o (p1.mem_iff.1 ho); obtain ⟨f, hf, h2⟩ := Xe.1 h1; rw [<- h2]; exact hall f hf
 dsimp only; refine jl0 (fun _ => ?_) (fun h => by rw [hc2] at h; simp at h); have hso := zy2 p2 (j7i haskM (by omega)); have hsorted : (q8o (q18 g 2000 M).outs).Pairwise fun x y => WH.ltB y x = false := hso.imp fun {x y} h => by
  rw [WH.ltB_not]; unfold BG.lt at h; omega
 have heq : q8o (q18 g 2000 M).outs = c.1 := j1r WH.ltB_part ((p2.perm.trans (hperm.trans ((p1.map _).symm))).trans hcp.symm) hsorted hcs; rw [<- heq, WH.same_refl _ (by rw [hlen2, hperm.length_eq, Xb, hro]; omega)]; exact Ok.bind (Ok.some (Ok.some rfl))
end MN
end Go.Proofs.YtaiccbgcgcfhfaaGreat
