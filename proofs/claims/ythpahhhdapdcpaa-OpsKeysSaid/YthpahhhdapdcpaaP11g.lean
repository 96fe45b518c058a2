/-
  The law in plain words: what its plain function gives is true. No condition beyond those that each theorem names.
-/
import Derived.Test.YthpahhhdapdcpaaP11e
set_option linter.unusedSimpArgs false
set_option linter.unusedVariables false
namespace Go.Proofs.Ythpahhhdapdcpaa
open Go Go.RowKit BG
namespace OP
/-! Sums along a bag hang on how often each record is there alone. -/
def wsum (f : GRec → Int) (b : List GItem) : Int := (b.map fun y => y.N * f y.Rec).sum
theorem wsum_cons (f : GRec → Int) (x : GItem) (b : List GItem) : wsum f (x :: b) = x.N * f x.Rec + wsum f b := rfl
theorem wsum_append (f : GRec → Int) (a b : List GItem) : wsum f (a ++ b) = wsum f a + wsum f b := by simp [wsum]
def but (r : GRec) (b : List GItem) : List GItem := b.filter fun y => decide (y.Rec ≠ r)
theorem wsum_split (f : GRec → Int) (r : GRec) : ∀ b : List GItem, wsum f b = cnt b r * f r + wsum f (but r b)
  | [] => by simp [wsum, cnt, but]
  | x :: b => by
    have ih := wsum_split f r b
    rw [wsum_cons, ih]
    unfold but
    rw [List.filter_cons]
    by_cases h : x.Rec = r
    · rw [if_neg (by simp [h])]
      have e : cnt (x :: b) r = x.N + cnt b r := by simp only [cnt]; rw [if_pos h]
      rw [e, h, Int.add_mul]
      unfold but at ih
      omega
    · rw [if_pos (by simp [h]), wsum_cons]
      simp only [cnt, if_neg h, Int.zero_add]
      omega
theorem cnt_but (r s : GRec) : ∀ b : List GItem, cnt (but r b) s = if s = r then 0 else cnt b s
  | [] => by simp [but, cnt]
  | x :: b => by
    have ih := cnt_but r s b
    unfold but at ih ⊢
    rw [List.filter_cons]
    by_cases h : x.Rec = r
    · rw [if_neg (by simp [h]), ih]
      by_cases h2 : s = r
      · rw [if_pos h2, if_pos h2]
      · rw [if_neg h2, if_neg h2]
        simp only [cnt]
        rw [if_neg (fun e => h2 (by rw [← e, h]))]; omega
    · rw [if_pos (by simp [h])]
      simp only [cnt]
      rw [ih]
      by_cases h2 : s = r
      · rw [if_pos h2, if_pos h2, if_neg (fun e => h (by rw [e, h2]))]; rfl
      · rw [if_neg h2, if_neg h2]
theorem wsum_zero (f : GRec → Int) : ∀ (n : Nat) (l : List GItem), l.length ≤ n → (∀ r, cnt l r = 0) → wsum f l = 0
  | 0, l, hl, _ => by
    have : l = [] := List.eq_nil_of_length_eq_zero (by omega)
    rw [this]; rfl
  | n + 1, [], _, _ => rfl
  | n + 1, x :: l, hl, h => by
    rw [wsum_split f x.Rec, h, Int.zero_mul, Int.zero_add]
    refine wsum_zero f n _ ?_ fun r => by rw [cnt_but]; split <;> simp [h]
    unfold but
    rw [List.filter_cons, if_neg (by simp)]
    have := List.length_filter_le (fun y : GItem => decide (y.Rec ≠ x.Rec)) l
    simp only [List.length_cons] at hl
    omega
def neg (b : List GItem) : List GItem := b.map fun y => ⟨y.Rec, -y.N⟩
theorem cnt_neg (r : GRec) : ∀ b : List GItem, cnt (neg b) r = -cnt b r
  | [] => rfl
  | x :: b => by
    have ih := cnt_neg r b
    simp only [neg, List.map_cons, cnt] at *
    rw [ih]; split <;> omega
theorem wsum_neg (f : GRec → Int) : ∀ b : List GItem, wsum f (neg b) = -wsum f b
  | [] => rfl
  | x :: b => by
    have ih := wsum_neg f b
    simp only [neg, List.map_cons, wsum_cons] at *
    rw [ih, Int.neg_mul]; omega
theorem wsum_eq (f : GRec → Int) {a b : List GItem} (h : ∀ r, cnt a r = cnt b r) : wsum f a = wsum f b := by
  have := wsum_zero f _ (a ++ neg b) (Nat.le_refl _) (fun r => by rw [cnt_append, cnt_neg, h]; omega)
  rw [wsum_append, wsum_neg] at this
  omega
theorem Puts.wsum {b c l : List GItem} (h : Puts b c l) (f : GRec → Int) : OP.wsum f c = OP.wsum f b + OP.wsum f l := by
  rw [← wsum_append]
  exact wsum_eq f fun r => by rw [cnt_append, h.cnt]
def mult (x : GNode) (s r : GRec) : Int := (((sing x r).filter (fun q => decide (q = s))).length : Int)
theorem cnt_map (n : Int) (s : GRec) : ∀ S : List GRec, cnt (S.map fun r => (⟨r, n⟩ : GItem)) s = n * ((S.filter (fun q => decide (q = s))).length : Int)
  | [] => by simp [cnt]
  | r :: S => by
    have ih := cnt_map n s S
    simp only [List.map_cons, cnt, ih, List.filter_cons]
    by_cases h : r = s
    · rw [if_pos h, if_pos (by simpa using h), List.length_cons]
      rw [show (((List.filter (fun q => decide (q = s)) S).length + 1 : Nat) : Int) = ((List.filter (fun q => decide (q = s)) S).length : Int) + 1 by omega, Int.mul_add]; omega
    · rw [if_neg h, if_neg (by simpa using h)]; omega
theorem cnt_lin (x : GNode) (s : GRec) : ∀ b : List GItem, cnt (lin x b) s = wsum (mult x s) b
  | [] => rfl
  | y :: b => by
    have e : lin x (y :: b) = lin x [y] ++ lin x b := lin_append x [y] b
    rw [e, cnt_append, lin_one, cnt_map, wsum_cons, cnt_lin x s b]; rfl
theorem tot_map (n : Int) : ∀ S : List GRec, tot (S.map fun r => (⟨r, n⟩ : GItem)) = n * (S.length : Int)
  | [] => by simp [tot]
  | r :: S => by
    have ih := tot_map n S
    simp only [tot, List.map_cons, List.sum_cons, List.length_cons] at *
    rw [ih, show ((S.length + 1 : Nat) : Int) = (S.length : Int) + 1 by omega, Int.mul_add]; omega
theorem tot_lin {x : GNode} : ∀ {b : List GItem}, Pos b → tot (lin x b) ≤ 8 * tot b
  | [], _ => by simp [lin, tot]
  | y :: b, h => by
    have e : lin x (y :: b) = lin x [y] ++ lin x b := lin_append x [y] b
    have ih := tot_lin (x := x) (b := b) fun z hz => h z (by simp [hz])
    have hy := h y (by simp)
    have hs := sing_len x y.Rec
    rw [e, tot_append, lin_one, tot_map]
    have h1 : tot (y :: b) = y.N + tot b := by simp [tot]
    have h2 := Int.mul_le_mul_of_nonneg_left (show ((sing x y.Rec).length : Int) ≤ 8 by omega) (show 0 ≤ y.N by omega)
    omega
theorem linS_5 : linS 5 = true := by decide
theorem Out_lin {x : GNode} {A O : List GItem} (hl : linS x.Kind = true) (h : Out x A [] O) : O = lin x A := by
  unfold Out at h
  split at h
  · rw [h]; simp [lin]
  · first | exact h | (rw [if_pos hl] at h; exact h)
theorem Apply_lin {x : GNode} {A : List GItem} (hl : linS x.Kind = true) (hr : Rt A) (hp : Pos A) (ht : tot A ≤ 8000) : Ok (f_ops_Apply x [A]) (fun v => v.2 = true ∧ Puts [] v.1 (lin x A) ∧ tot (lin x A) ≤ 65536) := by
  have hlen := hp.tot_nonneg
  have p0 : f_ops_Apply_1 0 [A] = some A := by
    refine Eq.trans (port_ok (ports := [A]) 0 (by intro l hl; simp at hl; rw [hl]; omega)) ?_
    show some (there A) = _
    rw [there_pos hr hp]
  have p1 : f_ops_Apply_1 1 [A] = some [] := rfl
  refine (Apply_ok (x := x) p0 p1 ⟨hr, hp, by omega⟩ ⟨Rt.nil, by simp [Pos], by simp⟩).mono fun v ⟨O, hO, pO, hF⟩ => ?_
  obtain rfl := Out_lin hl hO
  have := tot_lin (x := x) hp
  rcases hF with ⟨h1, h2, h3⟩ | ⟨_, _, h⟩
  · exact ⟨h1, h2, h3⟩
  · omega
theorem ones_pos (l : List GRec) : Pos (ones l) := fun x hx => by
  obtain ⟨y, _, rfl⟩ := List.mem_map.1 hx
  exact Int.one_pos
theorem ones_tot (l : List GRec) : tot (ones l) = (l.length : Int) := by
  rw [← (ones_pos l).big, ones_big]
/-- A bag of records. -/
theorem Of_good {l : List GRec} (hl : l.length ≤ 60) : Ok (f_bag_Of l) (fun c => Puts [] c (ones l) ∧ Rt c ∧ Pos c ∧ tot c = (l.length : Int) ∧ c.length ≤ 60) := by
  refine (Of_ok (by omega)).mono fun c hc => ⟨hc, hc.rt, Puts.pos hc (ones_pos l), ?_, ?_⟩
  · rw [hc.tot, ones_tot]; simp [tot]
  · have := hc.len; simp [ones] at this; omega
theorem Plus_good {a b : List GItem} (ha : Rt a) (pa : Pos a) (hb : Rt b) (pb : Pos b) (hs : tot a + tot b ≤ 1000000) : Ok (f_bag_Plus a b) (fun c => Puts a c b ∧ Rt c ∧ Pos c ∧ tot c = tot a + tot b) := by
  have h1 := pa.tot_nonneg
  have h2 := pb.tot_nonneg
  refine (Plus_ok ha hb (by rw [pa.big, pb.big]; omega) (by omega)).mono fun c hc => ⟨hc, hc.rt, fun x hx => ?_, hc.tot⟩
  have g1 := cnt_of hc.rt.inc hx
  have g2 := hc.cnt x.Rec
  have g3 := (hc.rt.num x hx).1
  have nn : ∀ l : List GItem, Pos l → 0 ≤ cnt l x.Rec := fun l => by
    induction l with
    | nil => intro _; simp [cnt]
    | cons y l ih =>
      intro hp
      have := hp y (by simp)
      have := ih fun z hz => hp z (by simp [hz])
      simp only [cnt]; split <;> omega
  have := nn a pa
  have := nn b pb
  omega
/-- A linear operator on a sum. -/
theorem lin_sum {x : GNode} {C D W c d w p : List GItem} (hW : Puts C W D) (hc : Puts [] c (lin x C)) (hd : Puts [] d (lin x D)) (hw : Puts [] w (lin x W)) (hp : Puts c p d) : w = p := by
  refine hw.rt.unique hp.rt fun s => ?_
  rw [hp.cnt, hw.cnt, hc.cnt, hd.cnt]
  simp only [cnt, cnt_lin, Puts.wsum hW (mult x s)]
  omega
end OP
end Go.Proofs.Ythpahhhdapdcpaa

