/-
  The law in plain words: what its plain function gives is true. No condition beyond those that each theorem names.
-/
import Derived.Test.YteibkihbdgphnaaGreatWalkMP0
import Derived.Test.YteibkihbdgphnaaGreatP11c
set_option linter.unusedSimpArgs false
set_option linter.unusedVariables false
set_option linter.unusedSectionVars false
open List renaming take_succ_eq_append_getElem -> Xa, take_append_drop -> Xb, append_assoc -> Xe, take_length -> Xf, getElem_mem -> Xg, mem_of_mem_drop -> Xh
open Int renaming toNat_natCast -> Xc, mul_le_mul_of_nonneg_left -> Xd
open Nat renaming zero_le -> Xi
namespace Go.Proofs.YteibkihbdgphnaaGreat
open Go Go.RowKit BG
namespace OP
def qy7 (k a b : Int) : GRec := (q97 k a b).getD ⟨0, 0⟩
theorem j3z (k a b : Int) : q97 k a b = some (qy7 k a b) /\ (qy7 k a b).K = k := by
 obtain ⟨r, h, hk⟩ := zt9 k a b; have : qy7 k a b = r := by unfold qy7; rw [h]; rfl
 exact ⟨by rw [this]; exact h, by rw [this]; exact hk⟩
def jrow (x : GItem) (b : List GItem) : List GItem := (key x.Rec.K b).map fun y => ⟨qy7 x.Rec.K x.Rec.V y.Rec.V, x.N * y.N⟩
def jn (a b : List GItem) : List GItem := a.flatMap (jrow · b)
theorem z1u (x : GItem) (a b : List GItem) : jrow x (a ++ b) = jrow x a ++ jrow x b := by simp [jrow, qq8]
theorem qp2 (a c b : List GItem) : jn (a ++ c) b = jn a b ++ jn c b := by simp [jn]
theorem j28 (x : GItem) (b : List GItem) : jn [x] b = jrow x b := by simp [jn]
theorem zl9 {a b : List GItem} (ha : Pos a) (hb : Pos b) : Pos (jn a b) := by
 intro z hz; obtain ⟨x, hx, hz⟩ := List.mem_flatMap.1 hz; obtain ⟨y, hy, rfl⟩ := List.mem_map.1 hz; exact Int.mul_pos (ha x hx) (hb y (List.mem_filter.1 hy).1)
theorem j70 {O acc R : List GItem} {z : GItem} (hp : Pos O) (h : O = acc ++ [z] ++ R) (h2 : 65536 < tot acc + z.N) : 65536 < tot O := by
 rw [h] at hp ⊢; have := hp.right.tot_nonneg; simp only [q3a]; have e : tot [z] = z.N := by simp [tot]
 omega
theorem j76 {a b : List GItem} (ha : a.Pairwise (fun p q => lt p.Rec q.Rec)) (pa : Pos a) (pb : Pos b) (hla : a.length <= 60000) (hlb : b.length <= 60000) :
  Ok (q50 ⟨[], 0⟩ a b) (fun v => (v.1 = true /\ v.2.out = jn a b /\ Mk v.2) \/ (v.1 = false /\ 65536 < tot (jn a b))) := by
 have hK := j5n ha; have hpj := zl9 pa pb; unfold q50; refine jh7 (fun s => ∃ f : Nat, s.1 = (f : Int) /\ f <= a.length /\ s.2.2 = jn (a.take f) b /\ (∀ x ∈ a.take f, ∀ y ∈ a.drop f, x.Rec.K < y.Rec.K) /\ Mk ⟨s.2.2, s.2.1⟩) (fun s => a.length - s.1.toNat) ?_ ⟨0, rfl, Xi _, by simp [jn], by simp, ⟨rfl, by simp [Pos], by simp⟩⟩ (by simp only [rounds]; omega); rintro rec ⟨_, many, out⟩ ⟨f, rfl, hf, h1, h5, h6⟩ hr; simp only at h1 h6; unfold q5q; simp only; refine jh5 (fun hc => ?_) (fun hc => ?_)
 rotate_left
 .
  simp only [decide_eq_false_iff_not] at hc; have : f = a.length := by omega
  rw [this, Xf] at h1; exact Ok.some (.inl ⟨rfl, h1, h6⟩)
 simp only [decide_eq_true_eq] at hc; have hlt : f < a.length := by omega
 have hmi : a[f] ∈ a.drop f := by rw [List.drop_eq_getElem_cons hlt]; exact List.mem_cons_self
 refine scan (a := a) (by omega) hlt (J := q2q a b (f : Int) many out rec) (fun rec' t => rfl) fun t g1 g2 g3 g4 => ?_; obtain ⟨hkp, hdt⟩ := zl8 hK g1 g2 hlt (fun x hx => h5 x hx _ hmi) g3 g4; unfold q2q; refine Ok.bind (jh6 hlt (Ok.guard (by omega) ?_)); have hsp : a.take t = a.take f ++ (a.take t).drop f := by
  conv => lhs; rw [<- Xb f (a.take t), List.take_take, Nat.min_eq_left (by omega)]
 have hsa : a = a.take f ++ (a.take t).drop f ++ a.drop t := by
  conv => lhs; rw [<- Xb t a]
  rw [<- hsp]
 have hin : ∀ x ∈ (a.take t).drop f, x.Rec.K = a[f].Rec.K := fun x hx => by
  rw [<- hkp] at hx
  simpa using (List.mem_filter.1 hx).2
 have hPa : ∀ x ∈ (a.take t).drop f, x ∈ a := fun x hx => List.mem_of_mem_take (Xh hx); have hPl : ((a.take t).drop f).length <= 60000 := by rw [List.length_drop, List.length_take]; omega
 generalize hP : (a.take t).drop f = P at *
 have hjs : jn a b = jn (a.take f) b ++ jn P b ++ jn (a.drop t) b := by rw [<- qp2, <- qp2, <- hsa]
 generalize hkk : a[f].Rec.K = kk at *
 refine jh9 (l := P) (by omega) (fun i (s : Int × List GItem) => s.2 = jn (a.take f) b ++ jn (P.take i) b /\ Mk ⟨s.2, s.1⟩) 0 (fun rec3 i hi s _ hs hr3 => ?_) (fun rec3 s hs => ?_) ⟨by simp only [List.take_zero, h1]; simp [jn], h6⟩ (Xi _)
 rotate_left
 .
  obtain ⟨many2, out2⟩ := s; simp only at hs; rw [Xf] at hs; unfold q5p; rw [Xc, Xc, hP]; simp only; refine jh5 (fun hx => by simp only [decide_eq_true_eq] at hx; omega) (fun _ => hr _ ⟨t, rfl, g2, ?_, ?_, hs.2⟩ (by simp only; omega))
  . simp only; rw [hs.1, hsp, qp2]
  .
   intro x hx y hy; have hy2 : y ∈ a.drop f := by
    have : a.drop t = (a.drop f).drop (t - f) := by rw [List.drop_drop]; congr 1; omega
    rw [this] at hy; exact Xh hy
   rw [hsp] at hx; rcases List.mem_append.1 hx with hx | hx
   . exact h5 x hx y hy2
   . rw [hin x hx]; exact hdt y hy
 .
  obtain ⟨many2, out2⟩ := s; simp only at hs; unfold q5p; rw [Xc, Xc, hP]; simp only; refine jh5 (fun _ => Ok.bind (jh6 hi ?_)) (fun hx => by simp only [decide_eq_false_iff_not] at hx; omega); have hpx := pa _ (hPa _ (Xg hi)); have hxk := hin _ (Xg hi); have hPs : jn P b = jn (P.take i) b ++ jrow P[i] b ++ jn (P.drop (i + 1)) b := by
   rw [<- j28, <- qp2, <- qp2, <- Xa hi, Xb]
  refine jh9 (l := b) (by omega) (fun j (s : Int × List GItem) => s.2 = jn (a.take f) b ++ jn (P.take i) b ++ jrow P[i] (b.take j) /\ Mk ⟨s.2, s.1⟩) 0 (fun rec4 j hj s _ hs4 hr4 => ?_) (fun rec4 s hs4 => ?_) ⟨by simp only [List.take_zero]; rw [hs.1]; simp [jrow, key], hs.2⟩ (Xi _)
  .
   obtain ⟨many4, out4⟩ := s; simp only at hs4; unfold q5o; simp only; refine jh5 (fun _ => Ok.bind (jh6 hj ?_)) (fun hx => by simp only [decide_eq_false_iff_not] at hx; omega); rw [wrap_i64 ((j : Int) + 1) (by omega)]; have hst : jrow P[i] (b.take (j + 1)) = jrow P[i] (b.take j) ++ jrow P[i] [b[j]] := by rw [Xa hj, z1u]
   have hpy := pb _ (Xg hj); refine jh5 (fun hx => hr4 _ ⟨?_, hs4.2⟩) (fun hx => ?_)
   .
    have : jrow P[i] [b[j]] = [] := by
     unfold jrow; rw [z3d (by simpa [hxk, hkk] using hx)]; rfl
    rw [hst, this, List.append_nil]; exact hs4.1
   have hyk : b[j].Rec.K = kk := by simpa [hkk] using hx
   have h1z : jrow P[i] [b[j]] = [⟨qy7 kk P[i].Rec.V b[j].Rec.V, P[i].N * b[j].N⟩] := by
    unfold jrow; rw [z9v (l := [b[j]]) (by simpa [hxk] using hyk), List.map_cons, List.map_nil, hxk]
   have hbs : jrow P[i] b = jrow P[i] (b.take j) ++ [⟨qy7 kk P[i].Rec.V b[j].Rec.V, P[i].N * b[j].N⟩] ++ jrow P[i] (b.drop (j + 1)) := by
    rw [<- h1z, <- z1u, <- z1u, <- Xa hj, Xb]
   have hno : 65536 < tot out4 + P[i].N * b[j].N -> 65536 < tot (jn a b) := fun h => by
    refine j70 (acc := out4) (z := ⟨qy7 kk P[i].Rec.V b[j].Rec.V, P[i].N * b[j].N⟩) (R := jrow P[i] (b.drop (j + 1)) ++ jn (P.drop (i + 1)) b ++ jn (a.drop t) b) hpj ?_ h; rw [hs4.1, hjs, hPs, hbs]; simp only [Xe]
   have htn := hs4.2.pos.tot_nonneg; simp only at htn; refine jh5 (fun hbig => Ok.some (.inr ⟨rfl, hno ?_⟩)) (fun hbig => ?_)
   .
    simp only [Bool.or_eq_true, decide_eq_true_eq] at hbig; have m1 : P[i].N <= P[i].N * b[j].N := by
     have := Xd (show 1 <= b[j].N by omega) (show 0 <= P[i].N by omega); omega
    have m2 : b[j].N <= P[i].N * b[j].N := by
     have := Int.mul_le_mul_of_nonneg_right (show 1 <= P[i].N by omega) (show 0 <= b[j].N by omega); omega
    omega
   .
    simp only [Bool.or_eq_false_iff, decide_eq_false_iff_not] at hbig; have hz0 : 0 < P[i].N * b[j].N := Int.mul_pos hpx hpy; have hz1 : P[i].N * b[j].N <= 4294967296 := by
     have m1 := Xd (show b[j].N <= 65536 by omega) (show 0 <= P[i].N by omega); omega
    rw [wrap_i64 (P[i].N * b[j].N) (by omega), hkk]; refine Ok.bind (jh8 (j3z _ _ _).1 (jh4 (z9c hs4.2 hz0 (by omega)) fun v hv => ?_)); rcases hv with ⟨v1, v2, v3⟩ | ⟨v1, v2⟩
    . rw [v1]; refine jh5 (fun hx => by cases hx) (fun _ => hr4 _ ⟨?_, v3⟩); simp only at v2 ⊢; rw [v2, hs4.1, hst, h1z]; simp only [Xe]
    .
     rw [v1]; refine jh5 (fun _ => Ok.some (.inr ⟨rfl, hno ?_⟩)) (fun hx => by cases hx); have e : tot [(⟨qy7 kk P[i].Rec.V b[j].Rec.V, P[i].N * b[j].N⟩ : GItem)] = P[i].N * b[j].N := by simp [tot]
     simp only at v2; omega
  . obtain ⟨many4, out4⟩ := s; simp only at hs4; rw [Xf] at hs4; unfold q5o; simp only; refine jh5 (fun hx => by simp only [decide_eq_true_eq] at hx; omega) (fun _ => ?_); rw [wrap_i64 ((i : Int) + 1) (by omega)]; refine hr3 _ ⟨?_, hs4.2⟩; simp only; rw [hs4.1, Xa hi, qp2, j28, Xe]
end OP
end Go.Proofs.YteibkihbdgphnaaGreat
