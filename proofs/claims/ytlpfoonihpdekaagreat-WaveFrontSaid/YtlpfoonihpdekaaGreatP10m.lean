/-
  The law in plain words: what its plain function gives is true. No condition beyond those that each theorem names.
-/
import Derived.Test.YtlpfoonihpdekaaGreatWalkWF1
import Derived.Test.YtlpfoonihpdekaaGreatP10l
set_option linter.unusedSimpArgs false
set_option linter.unusedVariables false
set_option linter.unusedSectionVars false
namespace Go.Proofs.YtlpfoonihpdekaaGreat
open Go Go.RowKit VA
namespace HP
open Classical
structure Lst (g : GGraph) (nx row M : List (List Hp)) (i : Nat) (same : Bool) : Prop where
 len : M.length = g.Nodes.length
 ls : ∀ v < i, (∀ p ∈ p9 M v, p ∈ p9 nx v) ∧ anti (p9 M v) ∧ ∀ z, cov (p9 nx v) z → cov (p9 M v) z
 le : ∀ v, i ≤ v → p9 M v = p9 nx v
 st : same = true → ∀ v < i, like (p9 M v) (p9 row v)
 sf : same = false → ∃ v, v < i ∧ ¬ like (p9 M v) (p9 row v)
section
variable {g : GGraph} (hG : VA.Good g) {F : Int} {row : List (List Hp)} (R : Row F g.Nodes.length (lev g) row)
include hG R
theorem j6a {nx : List (List Hp)} (P : Pre g F row nx) (hb : ∀ v, (p9 nx v).length ≤ 100 * B) {rec_1 : List (List GHop) → Option (List (List GHop))} {Q : List (List GHop) → Prop}
  (hk : ∀ M same, Lst g nx row M g.Nodes.length same → Ok (q5d rec_1 same (gh F M)) Q) : Ok (q3m (gh F row) rec_1 (gh F nx)) Q := by
 have hn := hG.nl; have hrl := R.len; have h14 := qw8 hG; have hshort := R.short (by omega) (fun v => (h14 v).2); have hgl : (gh F row).length = row.length := by unfold gh; simp
 unfold q3m; refine q3k (l := row) (by omega) (fun i (p : Bool × List (List GHop)) => (p.1, i, p.2)) (fun p => p.2.1) (fun _ _ => rfl) (fun i p => ∃ M, p.2 = gh F M ∧ Lst g nx row M i p.1) (s0 := (true, gh F nx)) 0 (fun rec i hi p _ hI hr => ?_) (fun rec p hI => ?_) ⟨nx, rfl, P.len, fun _ h => absurd h (by omega), fun _ _ => rfl, fun _ _ h => absurd h (by omega), fun h => by cases h⟩ (Nat.zero_le _)
 ·
  obtain ⟨same, a⟩ := p; obtain ⟨M, ha, L⟩ := hI; dsimp only at ha L; subst ha; have hml := L.len; have hMi := L.le i (Nat.le_refl _); have hbi := hb i; rw [zn3] at hbi; unfold q5f; dsimp only; rw [if_pos (by rw [hgl]; simp only [decide_eq_true_eq]; omega), iw hi (by omega)]; refine Ok.bind (qe3 (by omega) ?_); refine j9y (zz3 (F := F) (n := lev g i) (L := p9 M i) (fun p hp => P.rp i p (by rw [← hMi]; exact hp)) (by rw [hMi]; omega)) ?_; rintro _ ⟨A, rfl, A1, A2, A3⟩; rw [Int.toNat_natCast, z9c]; have hA : ∀ p ∈ A, Rp F (lev g i) p := fun p hp => P.rp i p (by rw [← hMi]; exact A1 p hp); have hAl : A.length ≤ (p9 nx i).length := by rw [← hMi]; exact z6s (z4z A2) A1
  have hw : ∀ v, p9 (M.set i A) v = if v = i then A else p9 M v := fun v => q9z (by omega); have hL' : ∀ (s' : Bool), (s' = true → (∀ v < i, like (p9 M v) (p9 row v)) ∧ like A (p9 row i)) → (s' = false → (∃ v, v < i ∧ ¬ like (p9 M v) (p9 row v)) ∨ ¬ like A (p9 row i)) → Lst g nx row (M.set i A) (i + 1) s' := fun s' h1 h2 => by
   refine ⟨by rw [List.length_set]; exact hml, fun v hv => ?_, fun v hv => ?_, fun hs v hv => ?_, fun hs => ?_⟩
   ·
    rw [hw]
    split
    · rename_i he; subst he; exact ⟨fun p hp => by rw [← hMi]; exact A1 p hp, A2, fun z hz => A3 z (by rw [hMi]; exact hz)⟩
    · exact L.ls v (by omega)
   · rw [hw, if_neg (by omega)]; exact L.le v (by omega)
   ·
    rw [hw]
    split
    · rename_i he; subst he; exact (h1 hs).2
    · exact (h1 hs).1 v (by omega)
   ·
    rcases h2 hs with ⟨v, hv, hnl⟩ | hnl
    · exact ⟨v, by omega, by rw [hw, if_neg (by omega)]; exact hnl⟩
    · exact ⟨i, by omega, by rw [hw, if_pos rfl]; exact hnl⟩
  refine j9z (fun hs => ?_) (fun hs => ?_)
  · refine Ok.bind (qe3 (by rw [List.length_set]; omega) (Ok.bind (qe3 hi ?_))); rw [hw, if_pos rfl]; refine j9y (j5o hA (R.rp i) (by omega) (by have := hshort i; omega)) ?_; intro b ⟨b1, b2⟩; refine hr (b, _) ⟨_, rfl, hL' b (fun hbt => ⟨L.st hs, b1 hbt⟩) (fun hbf => .inr fun hl => ?_)⟩; rw [b2 (j29 A2 (R.an i) hl) hl.1 hl.2] at hbf; cases hbf
  · exact hr (false, _) ⟨_, rfl, hL' false (fun h => by cases h) (fun _ => .inl (L.sf hs))⟩
 · obtain ⟨same, a⟩ := p; obtain ⟨M, ha, L⟩ := hI; dsimp only at ha L; subst ha; unfold q5f; dsimp only; rw [if_neg (by rw [hgl]; simp)]; rw [hrl] at L; exact hk M same L
omit hG in
theorem Lst.next {nx M : List (List Hp)} (P : Pre g F row nx) {same : Bool} (L : Lst g nx row M g.Nodes.length same) : Row F g.Nodes.length (lev g) M ∧ covRow row M ∧ ∀ T, ClT g F T → covRow row T → covRow M T := by
 have hlt : ∀ {v p}, p ∈ p9 M v → v < g.Nodes.length := fun hp => by have := zy9 hp; rw [L.len] at this; exact this
 have hsub : ∀ v p, p ∈ p9 M v → p ∈ p9 nx v := fun v p hp => (L.ls v (hlt hp)).1 p hp; have hc : covRow row M := fun v z ⟨y, hy, hyz⟩ => (L.ls v (by have := zy9 hy; rw [R.len] at this; exact this)).2.2 z ⟨y, P.up v y hy, hyz⟩; refine ⟨⟨L.len, fun v p hp => P.rp v p (hsub v p hp), fun v p hp => P.c0 v p (hsub v p hp), fun v => ?_, fun v h4 p hp => P.wi v h4 p (hsub v p hp) M hc⟩, hc, fun T hT hs v z ⟨y, hy, hyz⟩ => P.sn T hT hs v z ⟨y, hsub v y hy, hyz⟩⟩
 by_cases hv : v < g.Nodes.length
 · exact (L.ls v hv).2.1
 ·
  have : p9 M v = [] := by unfold p9; rw [List.getD_eq_getElem?_getD, List.getElem?_eq_none (by rw [L.len]; omega)]; rfl
  rw [this]; exact List.Pairwise.nil
theorem Lst.more {nx M : List (List Hp)} (P : Pre g F row nx) (L : Lst g nx row M g.Nodes.length false) : Phi g.Nodes.length (lev g) row < Phi g.Nodes.length (lev g) M := by
 have hn := hG.nl; have h14 := qw8 hG; obtain ⟨RM, hc, _⟩ := L.next R P; obtain ⟨v, hv, hnl⟩ := L.sf rfl; have hex : ∃ x ∈ p9 M v, ¬ cov (p9 row v) x := by
  refine Classical.byContradiction fun hno => hnl (j4x (RM.rp v) (R.rp v) (RM.an v) (R.an v) (fun x hx => ?_) (fun y hy => hc v y ⟨y, hy, q92 _⟩)); exact Classical.byContradiction fun h => hno ⟨x, hx, h⟩
 obtain ⟨x, hx, hxn⟩ := hex; exact j0s hc hv (RM.rp v x hx) (RM.c0 v x hx) (RM.c3 (by omega) (fun v => (h14 v).2) hx) hxn ⟨x, hx, q92 _⟩
end
theorem j7h {g : GGraph} (hG : VA.Good g) {f : Nat} (hf : f < g.Nodes.length) : Ok (q57 g (f : Int)) fun r => ∃ row, r = gh (lev g f : Int) row ∧ Fin_ g f row := by
 have hn := hG.nl; have h14 := qw8 hG; obtain ⟨l1, l4⟩ := h14 f; unfold q57; refine Ok.guard (by omega) ?_; rw [zm9 hG hf]; refine Ok.bind (Ok.some (Ok.bind (ja0 (by simpa using hf) ?_))); have hz : (⟨(lev g f : Int), (lev g f : Int), 0, ⟨0, 0, 0, 0⟩, ⟨0, 0, 0, 0⟩⟩ : GHop) = mk (lev g f : Int) (lev g f) (List.replicate (lev g f) 0) := by rw [qz6]; simp
 have hgh : (List.replicate g.Nodes.length ([] : List GHop)).set (f : Int).toNat [(⟨(lev g f : Int), (lev g f : Int), 0, ⟨0, 0, 0, 0⟩, ⟨0, 0, 0, 0⟩⟩ : GHop)] = gh (lev g f : Int) ((List.replicate g.Nodes.length []).set f [(lev g f, List.replicate (lev g f) 0)]) := by
  rw [hz]; unfold gh; rw [List.map_set, List.map_replicate, Int.toNat_natCast]; rfl
 rw [hgh]; obtain ⟨R0, s0, m0⟩ := zd7 hG hf; refine z96 (fun row => gh (lev g f : Int) row) (fun row => Row (lev g f : Int) g.Nodes.length (lev g) row ∧ cov (p9 row f) (lev g f, List.replicate (lev g f) 0) ∧ (∀ T, ClT g (lev g f : Int) T → cov (p9 T f) (lev g f, List.replicate (lev g f) 0) → covRow row T))
  (fun row => g.Nodes.length * U - Phi g.Nodes.length (lev g) row) ?_ rounds _ ⟨R0, s0, m0⟩ ?_
 ·
  rintro rec row ⟨R, I2, I3⟩ hr; unfold q0w; refine Ok.guard (by omega) (j6c hG R (j6b hG R fun nx P hb hh => j6a hG R P hb fun M same L => ?_)); obtain ⟨RM, hc, hsn⟩ := L.next R P; have hself := hc _ _ I2; have hmn : ∀ T, ClT g (lev g f : Int) T → cov (p9 T f) (lev g f, List.replicate (lev g f) 0) → covRow M T := fun T hT hs => hsn T hT (I3 T hT hs); unfold q5d; refine j9z (fun hs => Ok.some ⟨M, rfl, RM, hself, fun e he h hh' hR => ?_, hmn⟩) (fun hs => hr M ⟨RM, hself, hmn⟩ ?_)
  ·
   obtain ⟨hfr, hto, _⟩ := hG.ed.at he; have hfn : e.From.toNat < g.Nodes.length := by have := hfr.1; have := hfr.2; omega
   have htn : e.To.toNat < g.Nodes.length := by have := hto.1; have := hto.2; omega
   exact (L.ls _ htn).2.2 _ ⟨_, hh e he h ((L.st hs _ hfn).1 h hh') hR, q92 _⟩
  · subst hs; have h1 := L.more hG R P; have h2 := z6p g.Nodes.length (lev g) M; omega
 ·
  have hN : g.Nodes.length * U ≤ 32 * U := Nat.mul_le_mul_right _ hn.2; have : 32 * U + 1 < rounds := by rw [j7g]; simp only [rounds]; omega
  omega
theorem Fin_.same {g : GGraph} {f : Nat} {a b : List (List Hp)} (ha : Fin_ g f a) (hb : Fin_ g f b) : covRow a b ∧ covRow b a :=
 ⟨ha.mn b ⟨hb.R.rp, hb.cl⟩ hb.self, hb.mn a ⟨ha.R.rp, ha.cl⟩ ha.self⟩
end HP
end Go.Proofs.YtlpfoonihpdekaaGreat
