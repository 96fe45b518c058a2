/-
  The law in plain words: what its plain function gives is true. No condition beyond those that each theorem names.
-/
import Derived.Test.YtgegekpefakacaaGreatWalkUS1
import Derived.Test.YtgegekpefakacaaGreatWalkUS0
import Derived.Test.YtgegekpefakacaaGreatP18e
import Derived.Test.YtgegekpefakacaaGreatP11e
namespace Go.Proofs.YtgegekpefakacaaGreat
open Go Go.RowKit BG TS
namespace BG
def neg (l : List GItem) : List GItem := l.map fun y => ⟨y.Rec, -y.N⟩
theorem z1j : ∀ l : List GItem, big (neg l) = big l
 | [] => rfl
 | x :: l => by
  have := z1j l; simp only [neg] at this; simp only [neg, List.map_cons, big, this, Int.natAbs_neg]
theorem zb2 : ∀ (l : List GItem) (z : GRec), cnt (neg l) z = - cnt l z
 | [], _ => rfl
 | x :: l, z => by
  have := zb2 l z; simp only [neg] at this; simp only [neg, List.map_cons, cnt, this]
  split <;> omega
theorem z2g {a b : List GItem} (ha : Rt a) (hb : Rt b) (hs : big a + big b ≤ 2147483648) (hlen : a.length + b.length < 100000000) : Ok (q5x a b) (fun c => Puts a c (neg b)) := by
 unfold q5x q8g; refine Ok.bind (Ok.bind (jf9 (z8f (by omega)) (Ok.bind (jf9 (z2f ha (by omega)) (jf5 (fun _ => ?_) (fun hx => by cases hx)))))); refine Ok.bind (jf9 (z2f hb (by omega)) (jf5 (fun hx => by cases hx) (fun _ => ?_))); have hnl : (neg b).length = b.length := by simp [neg]
 refine Ok.each (l := b) (by omega) (fun i s => Puts a s ((neg b).take i)) 0 (fun rec i hi s _ hs' hr => ?_) (fun rec s hs' => ?_) (by simpa using Puts.nil ha) (Nat.zero_le _)
 · unfold q8k; simp only; refine jf5 (fun _ => Ok.bind (jf6 hi ?_)) (fun hx => by simp only [decide_eq_false_iff_not] at hx; omega); have hbn := (hb.num _ (List.getElem_mem hi)).2; rw [show (-1 : Int) * b[i].N = -b[i].N by omega, wrap_i64 (-b[i].N) (by omega), wrap_i64 ((i : Int) + 1) (by omega)]; have := hs'.next (i := i) (by omega) (by rw [z1j]; exact hs) (by omega); simp only [neg, List.getElem_map] at this; exact jf4 this fun d hd => hr _ hd
 · unfold q8k; simp only; refine jf5 (fun hx => by simp only [decide_eq_true_eq] at hx; omega) (fun _ => Ok.some (Ok.some ?_)); rw [← hnl, List.take_length] at hs'; exact hs'
theorem ze5 {b : List GItem} (h : Rt b) (z : GRec) : cnt (there b) z = if 0 < cnt b z then cnt b z else 0 := by
 have ht := (qt8 b).1; unfold there at *; rw [if_pos h] at *
 by_cases hx : ∃ y ∈ b, y.Rec = z
 ·
  obtain ⟨y, hy, rfl⟩ := hx; have hc := qx9 h.inc hy; rw [hc]
  by_cases hp : 0 < y.N
  · rw [if_pos hp]; exact qx9 ht.inc (List.mem_filter.2 ⟨hy, by simpa using hp⟩)
  · rw [if_neg hp]; refine qu7 fun w hw e => ?_; obtain ⟨h1, h2⟩ := List.mem_filter.1 hw; have := qx9 h.inc h1; rw [e, hc] at this; simp at h2; omega
 · have h0 : cnt b z = 0 := qu7 fun x h1 h2 => hx ⟨x, h1, h2⟩; rw [h0, if_neg (by omega)]; exact qu7 fun x h1 h2 => hx ⟨x, (List.mem_filter.1 h1).1, h2⟩
theorem z9m (p : GItem → Bool) : ∀ b : List GItem, big (b.filter p) ≤ big b
 | [] => by simp
 | x :: b => by
  have := z9m p b; rw [List.filter_cons]; simp only [big]
  split <;> (try simp only [big]) <;> omega
theorem zc3 (b : List GItem) : big (there b) ≤ big b := by
 unfold there
 split
 · exact z9m _ b
 · have := qy2 b; simp only [big]; omega
theorem z0a {a b : List GItem} (ha : a.length < 1000000000) (hb : b.length < 1000000000) : Ok (qh4 a b) (fun r => r = true ↔ a = b) := by
 unfold qh4 q7z; refine Ok.bind (jf5 (fun hx => Ok.some (Ok.some ⟨fun h => (by cases h), fun h => (by simp [h] at hx)⟩)) (fun hx => ?_)); have hlen : a.length = b.length := by simp at hx; omega
 refine jg0 (l := a) (by omega) (fun i => a.take i = b.take i) 0 (fun rec i hi _ hI hr => ?_) (fun rec hI => ?_) (by simp) (Nat.zero_le _)
 ·
  unfold q43; have hi2 : i < b.length := by omega
  refine jf5 (fun _ => Ok.bind (jf6 hi (Ok.bind (jf6 hi2 (jf5 (fun hy => Ok.some (Ok.some ⟨fun h => (by cases h), fun h => ?_⟩)) (fun hy => ?_)))))) (fun hx => by simp only [decide_eq_false_iff_not] at hx; omega)
  · subst h; simp at hy
  · rw [wrap_i64 ((i : Int) + 1) (by omega)]; refine hr ?_; rw [List.take_succ_eq_append_getElem hi, List.take_succ_eq_append_getElem hi2, hI]; simp only [Bool.not_eq_false', Bool.and_eq_true, beq_iff_eq] at hy; rw [zu5 (zj1 hy.1 hy.2.1) hy.2.2]
 · unfold q43; refine jf5 (fun hx => by simp only [decide_eq_true_eq] at hx; omega) (fun _ => Ok.some (Ok.some ⟨fun _ => ?_, fun _ => rfl⟩)); rw [List.take_length, hlen, List.take_length] at hI; exact hI
theorem j6v {l : List GItem} (h : OP.Pos l) (z : GRec) : 0 ≤ cnt l z := by
 induction l with
 | nil => simp [cnt]
 | cons x l ih =>
  have h1 := h x (by simp); have h2 := ih fun y hy => h y (by simp [hy]); simp only [cnt]
  split <;> omega
end BG
namespace CE
structure Fine (l : List GItem) : Prop where
 rt : Rt l
 pos : OP.Pos l
 big : BG.big l ≤ 65536
 len : l.length ≤ 65536
theorem Fine.nil : Fine [] := ⟨Rt.nil, by simp [OP.Pos], by simp [BG.big], by simp⟩
theorem z8j (a : List GItem) (h : a.length ≤ 60000) : OP.Good (there a) := ⟨(qt8 a).1, (qt8 a).2, by have := z2h a; omega⟩
theorem ports {a b : List GItem} (la : a.length ≤ 60000) (lb : b.length ≤ 60000) : q3w 0 [a, b] = some (there a) ∧ q3w 1 [a, b] = some (there b) := by
 have h : ∀ l ∈ [a, b], l.length < 1000000 := fun l hl => by
  rcases List.mem_cons.1 hl with rfl | hl
  · omega
  · rw [List.mem_singleton] at hl; rw [hl]; omega
 exact ⟨OP.port_ok (ports := [a, b]) 0 h, OP.port_ok (ports := [a, b]) 1 h⟩
theorem j05 {x : GNode} {a b : List GItem} (la : a.length ≤ 60000) (lb : b.length ≤ 60000) : Ok (q94 x [a, b]) (fun v => Fine v.1) := by
 obtain ⟨h1, h2⟩ := ports la lb; refine (OP.Apply_ok h1 h2 (z8j a la) (z8j b lb)).mono fun v ⟨O, _, hO, hF⟩ => ?_; rcases hF with ⟨_, hp, ht⟩ | ⟨_, hv, _⟩
 ·
  have hpos : OP.Pos v.1 := fun y hy => by
   have h3 := hp.cnt y.Rec; rw [qx9 hp.rt.inc hy] at h3; have h4 := j6v hO y.Rec; have h5 := (hp.rt.num y hy).1; simp only [BG.cnt] at h3; omega
  have htot : tot v.1 ≤ 65536 := by rw [hp.tot]; simp [BG.tot] at *; omega
  refine ⟨hp.rt, hpos, by rw [hpos.big]; exact htot, ?_⟩; have := hpos.tot_nonneg; omega
 · rw [hv]; exact Fine.nil
structure Small (l : List GItem) : Prop where
 rt : Rt l
 len : l.length ≤ 200
 big : BG.big l ≤ 25600
end CE
end Go.Proofs.YtgegekpefakacaaGreat
