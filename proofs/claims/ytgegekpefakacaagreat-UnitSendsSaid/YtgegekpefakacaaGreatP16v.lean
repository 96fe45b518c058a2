/-
  The law in plain words: what its plain function gives is true. No condition beyond those that each theorem names.
-/
import Derived.Test.YtgegekpefakacaaGreatWalkUS1
import Derived.Test.YtgegekpefakacaaGreatWalkUS0
import Derived.Test.YtgegekpefakacaaGreatP18g
import Derived.Test.YtgegekpefakacaaGreatP16u
namespace Go.Proofs.YtgegekpefakacaaGreat
open Go Go.RowKit BG TS
namespace CE
theorem j5w {b : List GItem} {r : GRec} {n : Int} (h : Rt b) (hl : b.length < 100000000) (hn : -2147483648 ≤ n ∧ n ≤ 2147483648) (hn0 : n ≠ 0) : ∃ c, q45 b r n = some c ∧ Rt c ∧ c.length ≤ b.length + 1 := by
 by_cases hs : -2147483648 ≤ cnt b r + n ∧ cnt b r + n ≤ 2147483648
 · obtain ⟨c, hc, hp⟩ := zj4 h hl hn hs; exact ⟨c, hc, hp.rt, hp.len⟩
 ·
  obtain ⟨A, B, rfl, hA, hB⟩ := split r h.inc (by omega); have e := j2r h hA hB hl hn hn0; have : form A B r n = A ++ B := by
   cases B with
   | nil => exfalso; apply hs; rw [qu7 (by simpa using fun x hx e => z3y r (by have := hA x hx; rwa [e] at this))]; omega
   | cons x B =>
    simp only [form]
    by_cases hx : x.Rec = r
    · have hc := qx9 h.inc (x := x) (by simp); rw [hx] at hc; rw [hc] at hs; rw [if_pos hx, if_neg hs]
    ·
     exfalso
     apply hs; have hpw := List.pairwise_append.1 h.inc; have hBx := (List.pairwise_cons.1 hpw.2.1).1; rw [qu7]
     · omega
     ·
      intro y hy e0; rcases List.mem_append.1 hy with hy | hy
      · exact z3y r (by have := hA y hy; rwa [e0] at this)
      ·
       rcases List.mem_cons.1 hy with rfl | hy
       · exact hx e0
       · have := hBx y hy; rw [e0] at this; exact hB x (by simp) this
  exact ⟨A ++ B, by rw [e, this], h, by omega⟩
theorem z94 {a b : List GItem} {k : Int} (ha : Rt a) (hb : Rt b) (hk : k = 1 ∨ k = -1) (hlen : a.length + b.length < 100000000) : Ok (q8g a b k) (fun c => Rt c ∧ c.length ≤ a.length + b.length) := by
 unfold q8g; refine Ok.bind (jf9 (z8f (by omega)) (Ok.bind (jf9 (z2f ha (by omega)) (jf5 (fun _ => ?_) (fun hx => by cases hx))))); refine Ok.bind (jf9 (z2f hb (by omega)) (jf5 (fun hx => by cases hx) (fun _ => ?_))); refine Ok.each (l := b) (by omega) (fun i s => Rt s ∧ s.length ≤ a.length + i) 0 (fun rec i hi s _ hI hr => ?_) (fun rec s hI => ?_) ⟨ha, by omega⟩ (Nat.zero_le _)
 ·
  unfold q8k; simp only; refine jf5 (fun _ => Ok.bind (jf6 hi ?_)) (fun hx => by simp only [decide_eq_false_iff_not] at hx; omega); have hbn := hb.num _ (List.getElem_mem hi); have hkn : IntKind.i64.wrap (k * b[i].N) = b[i].N ∨ IntKind.i64.wrap (k * b[i].N) = -b[i].N := by
   rcases hk with rfl | rfl
   · left; rw [show (1 : Int) * b[i].N = b[i].N by omega, wrap_i64 _ (by omega)]
   · right; rw [show (-1 : Int) * b[i].N = -b[i].N by omega, wrap_i64 _ (by omega)]
  obtain ⟨c, h1, h2, h3⟩ := j5w (r := b[i].Rec) (n := IntKind.i64.wrap (k * b[i].N)) hI.1 (by omega) (by omega) (by omega); rw [h1, wrap_i64 ((i : Int) + 1) (by omega)]; exact Ok.bind (Ok.some (hr _ ⟨h2, by omega⟩))
 · unfold q8k; simp only; exact jf5 (fun hx => by simp only [decide_eq_true_eq] at hx; omega) (fun _ => Ok.some ⟨hI.1, by omega⟩)
theorem j2u {c : List GSlot} {t : GTime} (hs : ∀ s ∈ c, Rt s.In.a0 ∧ s.In.a0.length ≤ 1000) (hc : c.length ≤ 50) : Ok (qb9 c t) (fun l => Rt l ∧ l.length ≤ 60000) := by
 unfold qb9; refine Ok.each (l := c) (by omega) (fun i s => Rt s ∧ s.length ≤ 1000 * i) 0 (fun rec i hi s _ hI hr => ?_) (fun rec s hI => ?_) ⟨Rt.nil, by simp⟩ (Nat.zero_le _)
 · obtain ⟨h1, h2⟩ := hI; have hm := hs _ (List.getElem_mem hi); unfold qp7; simp only; refine jf5 (fun _ => Ok.bind (jf6 hi (Ok.bind (jf9 (le_eq _ _) ?_)))) (fun hx => by simp only [decide_eq_false_iff_not] at hx; omega); rw [wrap_i64 ((i : Int) + 1) (by omega)]; refine jf5 (fun hv => ?_) (fun hv => hr _ ⟨h1, by omega⟩); unfold qx6; refine jf4 (P := fun d => Rt d ∧ d.length ≤ s.length + c[i].In.a0.length) ?_ fun d hd => hr _ ⟨hd.1, by omega⟩; exact jf4 (z94 h1 hm.1 (.inl rfl) (by omega)) fun d hd => Ok.some hd
 · unfold qp7; simp only; exact jf5 (fun hx => by simp only [decide_eq_true_eq] at hx; omega) (fun _ => Ok.some ⟨hI.1, by omega⟩)
def z3l (l : List GItem) : Prop := (∀ y ∈ l, 0 < y.N ∧ y.N ≤ 2147483648) ∧ l.length ≤ 200000
theorem zz5 {old now : List GItem} {lazy : Bool} (ho : Rt old) (hol : old.length ≤ 1000) (hn : Rt now) (hnl : now.length ≤ 65536) : Ok (q7o old now lazy) (fun v => z3l v.1 ∧ z3l v.2) := by
 have hth : ∀ b : List GItem, b.length ≤ 200000 → z3l (there b) := fun b hb => ⟨fun y hy => ⟨(qt8 b).2 y hy, ((qt8 b).1.num y hy).2.2⟩, by have := z2h b; omega⟩; have hmin : ∀ a b : List GItem, Rt a → Rt b → a.length + b.length ≤ 200000 → Ok (q5x a b) (fun d => d.length ≤ 200000) := fun a b ha hb hl => by
  unfold q5x; exact jf4 (z94 ha hb (.inr rfl) (by omega)) fun d hd => Ok.some (by have := hd.2; omega)
 unfold q7o; refine jf5 (fun _ => ?_) (fun _ => ?_)
 · refine jf4 (hmin old now ho hn (by omega)) fun d1 h1 => Ok.bind (jf9 (qh7 (by omega)) ?_); refine jf4 (hmin now old hn ho (by omega)) fun d2 h2 => Ok.bind (jf9 (qh7 (by omega)) (Ok.some ⟨hth _ h1, hth _ h2⟩))
 · refine jf4 (z0a (by omega) (by omega)) fun b _ => jf5 (fun _ => Ok.some ⟨⟨by simp, by simp⟩, ⟨by simp, by simp⟩⟩) (fun _ => ?_); exact Ok.bind (jf9 (qh7 (by omega)) (Ok.bind (jf9 (qh7 (by omega)) (Ok.some ⟨hth _ (by omega), hth _ (by omega)⟩))))
theorem Make_tot {A B : List GSlot} {s : GSlot} {x : GNode} {lazy : Bool} (hc : Cl (A ++ s :: B)) (hs : Sz 40 (A ++ s :: B)) (hd : s.Dirty = true) :
  q57 (A ++ s :: B) x s.Time lazy = some (A ++ s :: B, [], [], false) ∨
  ∃ now take give, Fine now ∧ z3l take ∧ z3l give ∧ q57 (A ++ s :: B) x s.Time lazy = some (A ++ (one (madeS s now) ++ B), take, give, true) := by
 have hlc := hs.len; have hcl : ∀ y ∈ A ++ s :: B, lens 1000000 y := fun y hy => lens_le (by omega) (hs.each y hy); have hsp := hc.sp; have hsl := hs.each s (by simp); have hsg := hc.good s (by simp); have hat : atS (A ++ s :: B) s.Time = (s, true) := by
  have hfA : A.find? (fun y => decide (y.Time = s.Time)) = none := List.find?_eq_none.2 fun y hy => by
   have := hsp.lo y hy; simp only [decide_eq_true_eq]; intro e; rw [e] at this; omega
  unfold atS; rw [if_pos hc, List.find?_append, hfA, List.find?_cons, decide_eq_true rfl]; rfl
 obtain ⟨ps, hps, hpr⟩ := j2u (c := A ++ s :: B) (t := s.Time) (fun y hy => ⟨(hc.good y hy).a0, by have := (hs.each y hy).1; omega⟩) (by omega); have start : ∀ Q : List GSlot × List GItem × List GItem × Bool → Prop, Ok (q44 x s.Time lazy (A ++ s :: B) (s, true) [s.In.a0, if x.Kind = 14 then ps else s.In.a1]) Q → Ok (q57 (A ++ s :: B) x s.Time lazy) Q := fun Q h => by
  unfold q57; refine Ok.bind (jf9 (ze6 (by omega)) (Ok.bind (jf9 (j57 (by omega) hcl) ?_))); rw [hat]; refine jf5 (fun hx => by rw [hd] at hx; simp at hx) (fun _ => jf5 (fun hk => ?_) (fun hk => ?_))
  · simp only [beq_iff_eq] at hk; rw [if_pos hk] at h; exact Ok.bind (jf9 hps (Ok.bind (Ok.some h)))
  · simp only [beq_eq_false_iff_ne, ne_eq] at hk; rw [if_neg hk] at h; exact h
 obtain ⟨v, hA, hfn⟩ := j05 (x := x) (a := s.In.a0) (b := if x.Kind = 14 then ps else s.In.a1) (by have := hsl.1; omega) (by have := hsl.2.1; have := hpr.2; split <;> omega)
 cases hv : v.2 with
 | false =>
  left
  refine jf8 (start _ ?_); unfold q44; exact Ok.bind (jf9 hA (jf5 (fun _ => Ok.some rfl) (fun hx => by rw [hv] at hx; simp at hx)))
 | true =>
  right
  obtain ⟨w, hw, hw1, hw2⟩ := zz5 (lazy := lazy) hsg.sent (by have := hsl.2.2; omega) hfn.rt hfn.len; refine ⟨v.1, w.1, w.2, hfn, hw1, hw2, jf8 (start _ ?_)⟩; unfold q44; refine Ok.bind (jf9 hA (jf5 (fun hx => by rw [hv] at hx; simp at hx) (fun _ => Ok.bind (jf9 hw ?_)))); refine jf4 (find_ok hc.inc (fun y hy => (hc.good y hy).time) hsg.time (by omega)) fun u ⟨A', B', he, hA', hB', h1, _⟩ => ?_; obtain ⟨rfl, rfl⟩ := zc6 he hsp.lo (fun y hy => by
   rcases List.mem_cons.1 hy with rfl | hy
   · exact Int.le_refl _
   · exact Int.le_of_lt (hsp.hi y hy)) hA' hB'
  rw [h1]; have hset : ∀ y z : GSlot, List.set (A ++ y :: B) (Int.toNat (A.length : Int)) z = A ++ z :: B := fun y z => by
   rw [Int.toNat_natCast, List.set_append_right _ _ (Nat.le_refl _)]; simp
  have hg : ∀ {Q : GSlot → Prop} (y : GSlot), Q y → Ok (idx (A ++ y :: B) (A.length : Int)) Q := fun y h => jf6 (by simp) (by simpa using h); refine Ok.bind (hg s ?_); rw [hset]; refine Ok.bind (hg _ ?_); rw [hset]; refine Ok.bind (hg _ ?_); rw [hset]; obtain ⟨l0, l1, l2⟩ := hcl s (by simp); have l3 := hfn.len; have := z8p (A := A) (B := B) (x := madeS s v.1) (by simp at hlc ⊢; omega) ⟨l0, l1, by show v.1.length ≤ _; omega⟩; exact Ok.bind (jf9 this (Ok.some rfl))
end CE
end Go.Proofs.YtgegekpefakacaaGreat
