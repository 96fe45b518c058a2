/-
  The law in plain words: what its plain function gives is true. No condition beyond those that each theorem names.
-/
import Derived.Test.YteibkihbdgphnaaGreatWalkMP0
import Derived.Test.YteibkihbdgphnaaGreatP11b
set_option linter.unusedSimpArgs false
set_option linter.unusedVariables false
set_option linter.unusedSectionVars false
open List renaming take_succ_eq_append_getElem -> Xa, take_append_drop -> Xc, mem_iff_getElem -> Xd, mem_append -> Xe, mem_singleton -> Xf, length_take -> Xg, take_length -> Xh, mem_append_left -> Xj, getElem_drop -> Xl, length_drop -> Xm
open Int renaming toNat_natCast -> Xb, emod_lt_of_pos -> Xk
open Nat renaming zero_le -> Xi
namespace Go.Proofs.YteibkihbdgphnaaGreat
open Go Go.RowKit BG
namespace OP
theorem j18 (v : Int) : 0 <= IntKind.u64.wrap v /\ IntKind.u64.wrap v < 18446744073709551616 := by
 simp only [IntKind.wrap, IntKind.bits, IntKind.signed, Bool.false_and, Bool.false_eq_true, if_false]; omega
def Lo (w : GOps_wide) : Prop := 0 <= w.lo.n /\ w.lo.n < 18446744073709551616
theorem j68 {w : GOps_wide} (v n : Int) (h : Lo w) : Ok (q9u w v n) (fun r => Lo r) := by
 have hJ : ∀ s, Ok (q6i w v n s) (fun r => Lo r) := fun s => by
  unfold q6i q3f; refine Ok.bind (Ok.some ?_); simp only; have hr := j18 (s * IntKind.u64.wrap n); refine jh5 (fun _ => ?_) (fun _ => ?_)
  . unfold qm0 zi8; refine Ok.bind (Ok.guard ⟨h.1, hr.1, by omega, by omega, by omega⟩ (Ok.some (Ok.some ?_))); exact ⟨Int.emod_nonneg _ (by decide), Xk _ (by decide)⟩
  . unfold qm1 zp4; refine Ok.bind (Ok.guard ⟨h.1, hr.1, by omega, by omega⟩ (Ok.some (Ok.some ?_))); exact ⟨Int.emod_nonneg _ (by decide), Xk _ (by decide)⟩
 unfold q9u; exact jh5 (fun _ => hJ _) (fun _ => hJ _)
theorem j8b {l : List GItem} (hl : l.length < 1000000) : Ok (qa0 l) (fun _ => True) := by
 unfold qa0; refine jh9 (l := l) (by omega) (fun _ s => Lo s) 0 (fun rec i hi s _ hs hr => ?_) (fun rec s hs => ?_) ⟨by simp, by simp⟩ (Xi _)
 . unfold qr5; simp only; refine jh5 (fun _ => Ok.bind (jh6 hi (jh4 (j68 _ _ hs) fun w hw => ?_))) (fun hx => by simp only [decide_eq_false_iff_not] at hx; omega); rw [wrap_i64 ((i : Int) + 1) (by omega)]; exact hr _ hw
 . unfold qr5; simp only; exact jh5 (fun hx => by simp only [decide_eq_true_eq] at hx; omega) (fun _ => T1 _)
theorem j1l (w : GOps_wide) (k : Int) : Ok (q46 w k) (fun r => r.K = k) := by
 unfold q46 qf1; exact jh5 (fun _ => Ok.some rfl) (fun _ => Ok.bind (Ok.some (Ok.some rfl)))
def z3z (l : List GItem) (k : Int) : GRec := ((qa0 l).bind fun w => q46 w k).getD ⟨0, 0⟩
theorem z5h {l : List GItem} (hl : l.length < 1000000) (k : Int) : ∃ w, qa0 l = some w /\ q46 w k = some (z3z l k) /\ (z3z l k).K = k := by
 obtain ⟨w, hw, _⟩ := j8b hl; obtain ⟨r, hr, hk⟩ := j1l w k; have : z3z l k = r := by unfold z3z; rw [hw]; simp [hr]
 exact ⟨w, hw, by rw [this]; exact hr, by rw [this]; exact hk⟩
def nsum (l : List GItem) : Int := l.foldl (fun n x => IntKind.i64.wrap (n + x.N)) 0
def qx0 (kind k : Int) (la lb : List GItem) : GRec := if kind = 7 then ⟨k, nsum la⟩ else if kind = 6 then z3z la k else z3z lb k
def key (k : Int) (l : List GItem) : List GItem := l.filter (fun x => x.Rec.K == k)
structure Gr (kind : Int) (a b O : List GItem) : Prop where
 inc : O.Pairwise (fun p q => p.Rec.K < q.Rec.K)
 row : ∀ o ∈ O, o.N = 1 /\ o.Rec = qx0 kind o.Rec.K (key o.Rec.K a) (key o.Rec.K b) /\ key o.Rec.K a ≠ []
 all : ∀ x ∈ a, ∃ o ∈ O, o.Rec.K = x.Rec.K
 small : tot O <= (a.length : Int)
theorem j8j (kind k : Int) {la lb : List GItem} (h1 : la.length < 1000000) (h2 : lb.length < 1000000) : (qx0 kind k la lb).K = k := by
 unfold qx0
 split
 . rfl
 .
  split
  . exact (z5h h1 k).choose_spec.2.2
  . exact (z5h h2 k).choose_spec.2.2
theorem scan {a : List GItem} (hl : a.length < 1000000) {R : Type} {Q : R -> Prop} {f : Nat} (hf : f < a.length) {J : Int -> Option R} {body : (Int -> Option R) -> Int -> Option R}
  (hb : ∀ rec t, body rec t = (if (decide (t < (List.length a : Int))) = true then q9 (idx a t) (fun (x : GItem) => q9 (idx a f) (fun (y : GItem) => (if (x.Rec.K == y.Rec.K) = true then rec (IntKind.i64.wrap (t + 1)) else J t))) else J t))
  (h : ∀ t : Nat, f < t -> t <= a.length -> (∀ q (_ : q < a.length), f <= q -> q < t -> a[q].Rec.K = a[f].Rec.K) -> (∀ _ : t < a.length, a[t].Rec.K ≠ a[f].Rec.K) -> Ok (J (t : Int)) Q) : Ok (q05 body rounds (f : Int)) Q := by
 refine jh7 (fun s : Int => ∃ t : Nat, s = (t : Int) /\ f <= t /\ t <= a.length /\ ∀ q (_ : q < a.length), f <= q -> q < t -> a[q].Rec.K = a[f].Rec.K) (fun s => a.length - s.toNat) ?_ ⟨f, rfl, Nat.le_refl _, by omega, fun q _ h1 h2 => by omega⟩ (by simp only [rounds]; omega); rintro rec _ ⟨t, rfl, h1, h2, h3⟩ hr; rw [hb]; refine jh5 (fun hc => ?_) (fun hc => ?_)
 .
  simp only [decide_eq_true_eq] at hc; have ht : t < a.length := by omega
  refine Ok.bind (jh6 ht (Ok.bind (jh6 hf (jh5 (fun hx => ?_) (fun hx => ?_)))))
  .
   simp only [beq_iff_eq] at hx; rw [wrap_i64 ((t : Int) + 1) (by omega)]; refine hr _ ⟨t + 1, rfl, by omega, by omega, fun q hq g1 g2 => ?_⟩ (by omega); rcases Nat.lt_or_ge q t with g | g
   . exact h3 q hq g1 g
   .
    have : q = t := by omega
    subst this; exact hx
  .
   simp only [beq_eq_false_iff_ne, ne_eq] at hx; refine h t ?_ h2 h3 (fun _ => hx); rcases Nat.lt_or_ge f t with g | g
   . exact g
   .
    have : f = t := by omega
    subst this; exact absurd rfl hx
 . simp only [decide_eq_false_iff_not] at hc; exact h t (by omega) h2 h3 (fun hlt => by omega)
theorem qq8 (k : Int) (a b : List GItem) : key k (a ++ b) = key k a ++ key k b := by simp [key]
theorem z3d {k : Int} {l : List GItem} (h : ∀ x ∈ l, x.Rec.K ≠ k) : key k l = [] := List.filter_eq_nil_iff.2 fun x hx => by simpa using h x hx
theorem z9v {k : Int} {l : List GItem} (h : ∀ x ∈ l, x.Rec.K = k) : key k l = l := List.filter_eq_self.2 fun x hx => by simpa using h x hx
theorem z9u (k : Int) (l : List GItem) : (key k l).length <= l.length := List.length_filter_le _ _
theorem j5n {a : List GItem} (h : a.Pairwise (fun p q => lt p.Rec q.Rec)) : a.Pairwise (fun p q => p.Rec.K <= q.Rec.K) := h.imp fun {p q} h => by unfold lt at h; omega
theorem zl8 {a : List GItem} (h : a.Pairwise (fun p q => p.Rec.K <= q.Rec.K)) {f t : Nat} (hft : f < t) (ht : t <= a.length) (hf : f < a.length) (hb : ∀ x ∈ a.take f, x.Rec.K < a[f].Rec.K)
  (h1 : ∀ q (_ : q < a.length), f <= q -> q < t -> a[q].Rec.K = a[f].Rec.K) (h2 : ∀ _ : t < a.length, a[t].Rec.K ≠ a[f].Rec.K) : key a[f].Rec.K a = (a.take t).drop f /\ ∀ x ∈ a.drop t, a[f].Rec.K < x.Rec.K := by
 have hp := List.pairwise_iff_getElem.1 h; have hd : ∀ x ∈ a.drop t, a[f].Rec.K < x.Rec.K := fun x hx => by
  obtain ⟨j, hj, rfl⟩ := Xd.1 hx; rw [Xm] at hj; rw [Xl]; have e1 := h2 (by omega); have e2 := hp f t hf (by omega) hft; rcases Nat.eq_zero_or_pos j with h0 | h0
  . subst h0; simp only [Nat.add_zero]; omega
  . have := hp t (t + j) (by omega) (by omega) (by omega); omega
 refine ⟨?_, hd⟩; have e : a = a.take f ++ (a.take t).drop f ++ a.drop t := by
  conv => lhs; rw [<- Xc t a, <- Xc f (a.take t), List.take_take, Nat.min_eq_left (by omega)]
 generalize hk : a[f].Rec.K = k at *
 conv => lhs; rw [e]
 rw [qq8, qq8, z3d (l := a.take f) (fun x hx => by have := hb x hx; omega), z3d (l := a.drop t) (fun x hx => by have := hd x hx; omega), z9v (l := (a.take t).drop f), List.nil_append, List.append_nil]; intro x hx; obtain ⟨j, hj, rfl⟩ := Xd.1 hx; rw [Xm, Xg] at hj; rw [Xl, List.getElem_take]; exact h1 (f + j) (by omega) (by omega) (by omega)
theorem j05 {l : List GItem} {i : Nat} (h : i < l.length) : nsum (l.take (i + 1)) = IntKind.i64.wrap (nsum (l.take i) + l[i].N) := by
 unfold nsum; rw [Xa h, List.foldl_append]; rfl
theorem j03 {kind : Int} {a b : List GItem} (ha : a.Pairwise (fun p q => lt p.Rec q.Rec)) (hla : a.length <= 60000) (hlb : b.length <= 60000) :
  Ok (q3t ⟨[], 0⟩ kind a b) (fun v => v.1 = true /\ Gr kind a b v.2.out /\ Mk v.2) := by
 have hK := j5n ha; unfold q3t; refine jh7 (fun s => ∃ f : Nat, s.1 = (f : Int) /\ f <= a.length /\ s.2.2.Pairwise (fun p q => p.Rec.K < q.Rec.K) /\ (∀ o ∈ s.2.2, o.N = 1 /\ o.Rec = qx0 kind o.Rec.K (key o.Rec.K a) (key o.Rec.K b) /\ key o.Rec.K a ≠ []) /\ (∀ x ∈ a.take f, ∃ o ∈ s.2.2, o.Rec.K = x.Rec.K) /\
  (∀ o ∈ s.2.2, ∃ x ∈ a.take f, x.Rec.K = o.Rec.K) /\ (∀ x ∈ a.take f, ∀ y ∈ a.drop f, x.Rec.K < y.Rec.K) /\ Mk ⟨s.2.2, s.2.1⟩ /\ s.2.1 <= (f : Int)) (fun s => a.length - s.1.toNat) ?_ ⟨0, rfl, Xi _, by simp, by simp, by simp, by simp, by simp, ⟨rfl, by simp [Pos], by simp⟩, by simp⟩ (by simp only [rounds]; omega)
 rintro rec ⟨_, many, out⟩ ⟨f, rfl, hf, h1, h2, h3, h4, h5, h6, h7⟩ hr; simp only at h1 h2 h3 h4 h6 h7; unfold q1k; simp only; refine jh5 (fun hc => ?_) (fun hc => ?_)
 rotate_left
 .
  simp only [decide_eq_false_iff_not] at hc; have : f = a.length := by omega
  rw [this, Xh] at h3; have hmm := h6.many; simp only at hmm; exact Ok.some ⟨rfl, ⟨h1, h2, h3, by simp only; omega⟩, h6⟩
 simp only [decide_eq_true_eq] at hc; have hlt : f < a.length := by omega
 have hmi : a[f] ∈ a.drop f := by rw [List.drop_eq_getElem_cons hlt]; exact List.mem_cons_self
 refine scan (a := a) (by omega) hlt (J := q25 kind a b (f : Int) many out rec) (fun rec' t => rfl) fun t g1 g2 g3 g4 => ?_; obtain ⟨hkp, hdt⟩ := zl8 hK g1 g2 hlt (fun x hx => h5 x hx _ hmi) g3 g4; have hkne : key a[f].Rec.K a ≠ [] := fun e => by
  have : a[f] ∈ key a[f].Rec.K a := List.mem_filter.2 ⟨List.getElem_mem hlt, by simp⟩; rw [e] at this; cases this
 have hkl := z9u a[f].Rec.K a; have hkl2 := z9u a[f].Rec.K b; have hpl : ((a.take t).drop f).length <= 60000 := by rw [<- hkp]; omega
 have hfin : Ok (q9 (q14 (⟨out, many⟩ : GOps_maker) (qx0 kind a[f].Rec.K (key a[f].Rec.K a) (key a[f].Rec.K b)) 1) (fun (v : Bool × GOps_maker) => (if (!v.1) = true then some (false, v.2) else rec ((t : Int), v.2.many, v.2.out)))) (fun v => v.1 = true /\ Gr kind a b v.2.out /\ Mk v.2) := by
  have hrk := j8j kind a[f].Rec.K (la := key a[f].Rec.K a) (lb := key a[f].Rec.K b) (by omega) (by omega)
  generalize hrr : qx0 kind a[f].Rec.K (key a[f].Rec.K a) (key a[f].Rec.K b) = rr at hrk ⊢
  have hmf : a[f] ∈ a.take t := Xd.2 ⟨f, by rw [Xg]; omega, by simp⟩; have hsp : a.take t = a.take f ++ (a.take t).drop f := by
   conv => lhs; rw [<- Xc f (a.take t), List.take_take, Nat.min_eq_left (by omega)]
  have hin : ∀ x ∈ (a.take t).drop f, x.Rec.K = a[f].Rec.K := fun x hx => by
   rw [<- hkp] at hx
   simpa using (List.mem_filter.1 hx).2
  have hmany := h6.many; simp only at hmany; refine jh4 (z9c (r := rr) (n := 1) h6 (by omega) (by omega)) fun v hv => ?_; rcases hv with ⟨v1, v2, v3⟩ | ⟨v1, v2⟩
  .
   rw [v1]; simp only at v2; have hvm := v3.many; rw [v2, q3a, <- hmany] at hvm; have e1 : tot [(⟨rr, 1⟩ : GItem)] = 1 := rfl; refine jh5 (fun hx => by cases hx) (fun _ => hr _ ⟨t, rfl, g2, ?_, ?_, ?_, ?_, ?_, v3, by simp only; omega⟩ (by simp only; omega))
   . simp only [v2]; refine List.pairwise_append.2 ⟨h1, by simp, fun o ho q hq => ?_⟩; rw [Xf] at hq; rw [hq]; obtain ⟨x, hx, e⟩ := h4 o ho; have := h5 x hx _ hmi; simp only [hrk]; omega
   .
    simp only [v2]; intro o ho; rcases Xe.1 ho with ho | ho
    . exact h2 o ho
    .
     rw [Xf] at ho; rw [ho]; refine ⟨rfl, ?_, ?_⟩
     . simp only [hrk]; exact hrr.symm
     . simp only [hrk]; exact hkne
   .
    simp only [v2]; intro x hx; rw [hsp] at hx; rcases Xe.1 hx with hx | hx
    . obtain ⟨o, ho, e⟩ := h3 x hx; exact ⟨o, Xj _ ho, e⟩
    . exact ⟨⟨rr, 1⟩, by simp, by simp only [hrk]; exact (hin x hx).symm⟩
   .
    simp only [v2]; intro o ho; rcases Xe.1 ho with ho | ho
    . obtain ⟨x, hx, e⟩ := h4 o ho; exact ⟨x, by rw [hsp]; exact Xj _ hx, e⟩
    . rw [Xf] at ho; exact ⟨a[f], hmf, by rw [ho]; exact hrk.symm⟩
   .
    intro x hx y hy; have hy2 : y ∈ a.drop f := by
     have : a.drop t = (a.drop f).drop (t - f) := by rw [List.drop_drop]; congr 1; omega
     rw [this] at hy; exact List.mem_of_mem_drop hy
    rw [hsp] at hx; rcases Xe.1 hx with hx | hx
    . exact h5 x hx y hy2
    . rw [hin x hx]; exact hdt y hy
  . have e1 : tot [(⟨rr, 1⟩ : GItem)] = 1 := rfl; simp only at v2; omega
 unfold q25; refine Ok.bind (jh6 hlt (Ok.guard (by omega) ?_)); rw [Xb, Xb, <- hkp]; refine jh5 (fun hk7 => ?_) (fun hk7 => jh5 (fun hk6 => ?_) (fun hk6 => ?_))
 .
  simp only [beq_iff_eq] at hk7; have er : qx0 kind a[f].Rec.K (key a[f].Rec.K a) (key a[f].Rec.K b) = ⟨a[f].Rec.K, nsum (key a[f].Rec.K a)⟩ := by unfold qx0; rw [if_pos hk7]
  rw [er] at hfin; refine jh7 (fun s => ∃ j : Nat, s.2 = (j : Int) /\ j <= (key a[f].Rec.K a).length /\ s.1 = nsum ((key a[f].Rec.K a).take j)) (fun s => (key a[f].Rec.K a).length - s.2.toNat) ?_ ⟨0, rfl, Xi _, rfl⟩ (by simp only [rounds]; omega); rintro rec7 ⟨n, _⟩ ⟨j, rfl, hj, hn⟩ hr7; simp only at hn; unfold q6c; rw [Xb, Xb, <- hkp]; simp only; refine jh5 (fun hc => ?_) (fun hc => ?_)
  .
   simp only [decide_eq_true_eq] at hc; have hjl : j < (key a[f].Rec.K a).length := by omega
   refine Ok.bind (jh6 hjl ?_); rw [wrap_i64 ((j : Int) + 1) (by omega)]; exact hr7 _ ⟨j + 1, rfl, by omega, by rw [j05 hjl, hn]⟩ (by simp only; omega)
  .
   simp only [decide_eq_false_iff_not] at hc; have : j = (key a[f].Rec.K a).length := by omega
   rw [this, Xh] at hn; rw [hn]; unfold q4b; exact hfin
 .
  simp only [beq_iff_eq] at hk6; have hk7' : ¬ kind = 7 := by omega
  obtain ⟨w, e1, e2, _⟩ := z5h (l := key a[f].Rec.K a) (by omega) a[f].Rec.K; have er : qx0 kind a[f].Rec.K (key a[f].Rec.K a) (key a[f].Rec.K b) = z3z (key a[f].Rec.K a) a[f].Rec.K := by unfold qx0; rw [if_neg hk7', if_pos hk6]
  rw [er] at hfin; exact Ok.bind (jh8 e1 (Ok.bind (jh8 e2 hfin)))
 .
  simp only [beq_eq_false_iff_ne, ne_eq] at hk6 hk7; obtain ⟨w, e1, e2, _⟩ := z5h (l := key a[f].Rec.K b) (by omega) a[f].Rec.K; have er : qx0 kind a[f].Rec.K (key a[f].Rec.K a) (key a[f].Rec.K b) = z3z (key a[f].Rec.K b) a[f].Rec.K := by unfold qx0; rw [if_neg hk7, if_neg hk6]
  rw [er] at hfin; unfold q4d; refine jh9 (l := b) (by omega) (fun i s => s = key a[f].Rec.K (b.take i)) 0 (fun rec5 i hi s _ hs hr5 => ?_) (fun rec5 s hs => ?_) (by simp [key]) (Xi _)
  .
   have hsl := z9u a[f].Rec.K (b.take i); rw [<- hs, Xg] at hsl; unfold q4e; simp only; refine jh5 (fun _ => Ok.bind (jh6 hi ?_)) (fun hx => by simp only [decide_eq_false_iff_not] at hx; omega); rw [wrap_i64 ((i : Int) + 1) (by omega)]; refine jh5 (fun hx => Ok.guard (by simp; omega) (hr5 _ ?_)) (fun hx => hr5 _ ?_)
   . rw [Xa hi, qq8, hs, z9v (l := [b[i]]) (by simpa using hx)]
   . rw [Xa hi, qq8, hs, z3d (l := [b[i]]) (by simpa using hx), List.append_nil]
  . rw [Xh] at hs; subst hs; unfold q4e; simp only; refine jh5 (fun hx => by simp only [decide_eq_true_eq] at hx; omega) (fun _ => ?_); unfold q4c; exact Ok.bind (jh8 e1 (Ok.bind (jh8 e2 hfin)))
end OP
end Go.Proofs.YteibkihbdgphnaaGreat
