/-
  The law in plain words: what its plain function gives is true. No condition beyond those that each theorem names.
-/
import Derived.Test.YtgegekpefakacaaGreatWalkUS1
import Derived.Test.YtgegekpefakacaaGreatP18m
namespace Go.Proofs.YtgegekpefakacaaGreat
open Go Go.RowKit BG TS
namespace CE
structure Diff (d old now : List GItem) : Prop where
 rt : Rt d
 big : BG.big d ≤ 300000
 len : d.length ≤ 300000
 cnt : ∀ z, BG.cnt d z = BG.cnt now z - BG.cnt old z
theorem Diff.of {d old now : List GItem} (h : Puts now d (neg old)) (h1 : BG.big now + BG.big old ≤ 300000) (h2 : now.length + old.length ≤ 300000) : Diff d old now := by
 refine ⟨h.rt, ?_, ?_, fun z => ?_⟩
 · have := h.big; rw [z1j] at this; omega
 · have := h.len; simp only [neg, List.length_map] at this; omega
 · rw [h.cnt, zb2]; omega
theorem j1a {old now : List GItem} {lazy : Bool} (ho : Fine old) (hn : Fine now) : Ok (q7o old now lazy) (fun v => ∃ d, q5x v.2 v.1 = some d ∧ Diff d old now) := by
 have o1 := ho.big; have o2 := ho.len; have n1 := hn.big; have n2 := hn.len; unfold q7o; refine jf5 (fun _ => ?_) (fun _ => ?_)
 ·
  refine jf4 (z2g ho.rt hn.rt (by omega) (by omega)) fun m1 h1 => ?_; have d1 := Diff.of h1 (by omega) (by omega); have dl1 := d1.len; refine Ok.bind (jf9 (qh7 (by omega)) (jf4 (z2g hn.rt ho.rt (by omega) (by omega)) fun m2 h2 => ?_)); have d2 := Diff.of h2 (by omega) (by omega); have dl2 := d2.len; refine Ok.bind (jf9 (qh7 (by omega)) (Ok.some ?_)); have b1 : big m1 ≤ 131072 := by have := h1.big; rw [z1j] at this; omega
  have b2 : big m2 ≤ 131072 := by have := h2.big; rw [z1j] at this; omega
  have l1 : m1.length ≤ 131072 := by have := h1.len; simp only [neg, List.length_map] at this; omega
  have l2 : m2.length ≤ 131072 := by have := h2.len; simp only [neg, List.length_map] at this; omega
  have t1 := zc3 m1; have t2 := zc3 m2; have s1 := z2h m1; have s2 := z2h m2; obtain ⟨d, hd, hp⟩ := z2g (qt8 m2).1 (qt8 m1).1 (by omega) (by omega); refine ⟨d, hd, hp.rt, ?_, ?_, fun z => ?_⟩
  · have := hp.big; rw [z1j] at this; omega
  · have := hp.len; simp only [neg, List.length_map] at this; omega
  ·
   rw [hp.cnt, zb2, ze5 d1.rt, ze5 d2.rt, d1.cnt, d2.cnt]
   split <;> split <;> omega
 ·
  refine jf4 (z0a (by omega) (by omega)) fun b hb => jf5 (fun hx => Ok.some ?_) (fun hx => ?_)
  ·
   have e := hb.1 hx; obtain ⟨d, hd, hp⟩ := z2g Rt.nil Rt.nil (by simp [BG.big]) (by simp); refine ⟨d, hd, hp.rt, ?_, ?_, fun z => ?_⟩
   · have := hp.big; simp [neg, BG.big] at this; omega
   · have := hp.len; simp [neg] at this; simp [this]
   · rw [hp.cnt, e]; simp [BG.cnt, neg]
  · refine Ok.bind (jf9 (qh7 (by omega)) (Ok.bind (jf9 (qh7 (by omega)) (Ok.some ?_)))); rw [zc2 ho.rt ho.pos, zc2 hn.rt hn.pos]; obtain ⟨d, hd, hp⟩ := z2g hn.rt ho.rt (by omega) (by omega); exact ⟨d, hd, Diff.of hp (by omega) (by omega)⟩
theorem zc6 {A B A' B' : List GSlot} {k : Int} (h : A ++ B = A' ++ B') (h1 : ∀ x ∈ A, key x.Time < k) (h2 : ∀ x ∈ B, k ≤ key x.Time) (h3 : ∀ x ∈ A', key x.Time < k) (h4 : ∀ x ∈ B', k ≤ key x.Time) : A = A' ∧ B = B' := by
 rcases List.append_eq_append_iff.1 h with ⟨C, e1, e2⟩ | ⟨C, e1, e2⟩
 ·
  cases C with
  | nil => simp only [List.append_nil] at e1; simp only [List.nil_append] at e2; exact ⟨e1.symm, e2⟩
  | cons c C =>
   have a1 := h3 c (by rw [e1]; simp); have a2 := h2 c (by rw [e2]; simp); omega
 ·
  cases C with
  | nil => simp only [List.append_nil] at e1; simp only [List.nil_append] at e2; exact ⟨e1, e2.symm⟩
  | cons c C =>
   have a1 := h1 c (by rw [e1]; simp); have a2 := h4 c (by rw [e2]; simp); omega
theorem Cl.sp {A B : List GSlot} {s : GSlot} (h : Cl (A ++ s :: B)) : Sp (A ++ s :: B) s.Time A s B := by
 have h1 := List.pairwise_append.1 h.inc; have h2 := List.pairwise_cons.1 h1.2.1; exact ⟨.inr ⟨rfl, rfl⟩, fun x hx => h1.2.2 x hx s (by simp), fun x hx => h2.1 x hx⟩
def madeS (s : GSlot) (now : List GItem) : GSlot := ⟨s.Time, s.In, now, false, true⟩
theorem zv5 {A B : List GSlot} {s : GSlot} {x : GNode} {lazy : Bool} {N : Nat} (hc : Cl (A ++ s :: B)) (hs : Sz N (A ++ s :: B)) (hN : N < 900000) (hd : s.Dirty = true) {ps : List GItem} (hps : x.Kind = 14 → qb9 (A ++ s :: B) s.Time = some ps) {v : List GItem × Bool}
  (hA : q94 x [s.In.a0, if x.Kind = 14 then ps else s.In.a1] = some v) (ho : Fine s.Sent) (hn : Fine v.1) :
  (v.2 = false → q57 (A ++ s :: B) x s.Time lazy = some (A ++ s :: B, [], [], false)) ∧
  (v.2 = true → ∃ take give d, q57 (A ++ s :: B) x s.Time lazy = some (A ++ (one (madeS s v.1) ++ B), take, give, true) ∧ q5x give take = some d ∧ Diff d s.Sent v.1) := by
 have hlc := hs.len; have hcl : ∀ y ∈ A ++ s :: B, lens 1000000 y := fun y hy => lens_le (by omega) (hs.each y hy); have hsp := hc.sp; have hat : atS (A ++ s :: B) s.Time = (s, true) := by
  have hfA : A.find? (fun y => decide (y.Time = s.Time)) = none := List.find?_eq_none.2 fun y hy => by
   have := hsp.lo y hy; simp only [decide_eq_true_eq]; intro e; rw [e] at this; omega
  unfold atS; rw [if_pos hc, List.find?_append, hfA, List.find?_cons, decide_eq_true rfl]; rfl
 obtain ⟨w, hw, d, hd1, hd2⟩ := j1a (lazy := lazy) ho hn; have start : ∀ Q : List GSlot × List GItem × List GItem × Bool → Prop, Ok (q44 x s.Time lazy (A ++ s :: B) (s, true) [s.In.a0, if x.Kind = 14 then ps else s.In.a1]) Q → Ok (q57 (A ++ s :: B) x s.Time lazy) Q := fun Q h => by
  unfold q57; refine Ok.bind (jf9 (ze6 (by omega)) (Ok.bind (jf9 (j57 (by omega) hcl) ?_))); rw [hat]; refine jf5 (fun hx => by rw [hd] at hx; simp at hx) (fun _ => jf5 (fun hk => ?_) (fun hk => ?_))
  · simp only [beq_iff_eq] at hk; rw [if_pos hk] at h; exact Ok.bind (jf9 (hps hk) (Ok.bind (Ok.some h)))
  · simp only [beq_eq_false_iff_ne, ne_eq] at hk; rw [if_neg hk] at h; exact h
 refine ⟨fun hv => ?_, fun hv => ?_⟩
 · refine jf8 (start _ ?_); unfold q44; exact Ok.bind (jf9 hA (jf5 (fun _ => Ok.some rfl) (fun hx => by rw [hv] at hx; simp at hx)))
 ·
  refine ⟨w.1, w.2, d, jf8 (start _ ?_), hd1, hd2⟩; unfold q44; refine Ok.bind (jf9 hA (jf5 (fun hx => by rw [hv] at hx; simp at hx) (fun _ => Ok.bind (jf9 hw ?_)))); have hgood := hc.good s (by simp); refine jf4 (find_ok hc.inc (fun y hy => (hc.good y hy).time) hgood.time (by omega)) fun u ⟨A', B', he, hA', hB', h1, _⟩ => ?_; obtain ⟨rfl, rfl⟩ := zc6 he hsp.lo (fun y hy => by
   rcases List.mem_cons.1 hy with rfl | hy
   · exact Int.le_refl _
   · exact Int.le_of_lt (hsp.hi y hy)) hA' hB'
  rw [h1]; have hset : ∀ y z : GSlot, List.set (A ++ y :: B) (Int.toNat (A.length : Int)) z = A ++ z :: B := fun y z => by
   rw [Int.toNat_natCast, List.set_append_right _ _ (Nat.le_refl _)]; simp
  have hg : ∀ {Q : GSlot → Prop} (y : GSlot), Q y → Ok (idx (A ++ y :: B) (A.length : Int)) Q := fun y h => jf6 (by simp) (by simpa using h); refine Ok.bind (hg s ?_); rw [hset]; refine Ok.bind (hg _ ?_); rw [hset]; refine Ok.bind (hg _ ?_); rw [hset]; obtain ⟨l0, l1, l2⟩ := hcl s (by simp); have l3 := hn.len; have := z8p (A := A) (B := B) (x := madeS s v.1) (by simp at hlc ⊢; omega) ⟨l0, l1, by show v.1.length ≤ _; omega⟩; exact Ok.bind (jf9 this (Ok.some rfl))
end CE
end Go.Proofs.YtgegekpefakacaaGreat
