/-
  The law in plain words: what its plain function gives is true. No condition beyond those that each theorem names.
-/
import Derived.Test.YthpahhhdapdcpaaP18e
import Derived.Test.YthpahhhdapdcpaaP11e
import Derived.Test.YthpahhhdapdcpaaWalkCS3
set_option linter.unusedSimpArgs false
set_option linter.unusedVariables false
namespace Go.Proofs.Ythpahhhdapdcpaa
open Go Go.RowKit BG TS
namespace BG
def neg (l : List GItem) : List GItem := l.map fun y => ⟨y.Rec, -y.N⟩
theorem neg_big : ∀ l : List GItem, big (neg l) = big l
  | [] => rfl
  | x :: l => by
    have := neg_big l
    simp only [neg] at this
    simp only [neg, List.map_cons, big, this, Int.natAbs_neg]
theorem cnt_neg : ∀ (l : List GItem) (z : GRec), cnt (neg l) z = - cnt l z
  | [], _ => rfl
  | x :: l, z => by
    have := cnt_neg l z
    simp only [neg] at this
    simp only [neg, List.map_cons, cnt, this]
    split <;> omega
theorem Minus_ok {a b : List GItem} (ha : Rt a) (hb : Rt b) (hs : big a + big b ≤ 2147483648) (hlen : a.length + b.length < 100000000) : Ok (f_bag_Minus a b) (fun c => Puts a c (neg b)) := by
  unfold f_bag_Minus f_bag_joined
  refine Ok.bind (Ok.bind (Ok.of_eq (clone_ok (by omega)) (Ok.bind (Ok.of_eq (Right_rt ha (by omega)) (Ok.iteB (fun _ => ?_) (fun hx => by cases hx))))))
  refine Ok.bind (Ok.of_eq (Right_rt hb (by omega)) (Ok.iteB (fun hx => by cases hx) (fun _ => ?_)))
  have hnl : (neg b).length = b.length := by simp [neg]
  refine Ok.each (l := b) (by omega) (fun i s => Puts a s ((neg b).take i)) 0 (fun rec i hi s _ hs' hr => ?_) (fun rec s hs' => ?_) (by simpa using Puts.nil ha) (Nat.zero_le _)
  · unfold f_bag_joined_B1
    simp only
    refine Ok.iteB (fun _ => Ok.bind (Ok.idxN hi ?_)) (fun hx => by simp only [decide_eq_false_iff_not] at hx; omega)
    have hbn := (hb.num _ (List.getElem_mem hi)).2
    rw [show (-1 : Int) * b[i].N = -b[i].N by omega, wrap_i64 (-b[i].N) (by omega), wrap_i64 ((i : Int) + 1) (by omega)]
    have := hs'.next (i := i) (by omega) (by rw [neg_big]; exact hs) (by omega)
    simp only [neg, List.getElem_map] at this
    exact Ok.bind2 this fun d hd => hr _ hd
  · unfold f_bag_joined_B1
    simp only
    refine Ok.iteB (fun hx => by simp only [decide_eq_true_eq] at hx; omega) (fun _ => Ok.some (Ok.some ?_))
    rw [← hnl, List.take_length] at hs'; exact hs'
theorem cnt_there {b : List GItem} (h : Rt b) (z : GRec) : cnt (there b) z = if 0 < cnt b z then cnt b z else 0 := by
  have ht := (there_rt b).1
  unfold there at *
  rw [if_pos h] at *
  by_cases hx : ∃ y ∈ b, y.Rec = z
  · obtain ⟨y, hy, rfl⟩ := hx
    have hc := cnt_of h.inc hy
    rw [hc]
    by_cases hp : 0 < y.N
    · rw [if_pos hp]
      exact cnt_of ht.inc (List.mem_filter.2 ⟨hy, by simpa using hp⟩)
    · rw [if_neg hp]
      refine cnt_none fun w hw e => ?_
      obtain ⟨h1, h2⟩ := List.mem_filter.1 hw
      have := cnt_of h.inc h1
      rw [e, hc] at this
      simp at h2; omega
  · have h0 : cnt b z = 0 := cnt_none fun x h1 h2 => hx ⟨x, h1, h2⟩
    rw [h0, if_neg (by omega)]
    exact cnt_none fun x h1 h2 => hx ⟨x, (List.mem_filter.1 h1).1, h2⟩
theorem big_filter (p : GItem → Bool) : ∀ b : List GItem, big (b.filter p) ≤ big b
  | [] => by simp
  | x :: b => by
    have := big_filter p b
    rw [List.filter_cons]
    simp only [big]
    split <;> (try simp only [big]) <;> omega
theorem there_big (b : List GItem) : big (there b) ≤ big b := by
  unfold there
  split
  · exact big_filter _ b
  · have := big_nonneg b
    simp only [big]; omega
theorem Same_eq {a b : List GItem} (ha : a.length < 1000000000) (hb : b.length < 1000000000) : Ok (f_bag_Same a b) (fun r => r = true ↔ a = b) := by
  unfold f_bag_Same f_slices_Equal_Item
  refine Ok.bind (Ok.iteB (fun hx => Ok.some (Ok.some ⟨fun h => (by cases h), fun h => (by simp [h] at hx)⟩)) (fun hx => ?_))
  have hlen : a.length = b.length := by simp at hx; omega
  refine Ok.each1 (l := a) (by omega) (fun i => a.take i = b.take i) 0 (fun rec i hi _ hI hr => ?_) (fun rec hI => ?_) (by simp) (Nat.zero_le _)
  · unfold f_slices_Equal_Item_B1
    have hi2 : i < b.length := by omega
    refine Ok.iteB (fun _ => Ok.bind (Ok.idxN hi (Ok.bind (Ok.idxN hi2 (Ok.iteB (fun hy => Ok.some (Ok.some ⟨fun h => (by cases h), fun h => ?_⟩)) (fun hy => ?_)))))) (fun hx => by simp only [decide_eq_false_iff_not] at hx; omega)
    · subst h; simp at hy
    · rw [wrap_i64 ((i : Int) + 1) (by omega)]
      refine hr ?_
      rw [List.take_succ_eq_append_getElem hi, List.take_succ_eq_append_getElem hi2, hI]
      simp only [Bool.not_eq_false', Bool.and_eq_true, beq_iff_eq] at hy
      rw [item_eq (rec_eq hy.1 hy.2.1) hy.2.2]
  · unfold f_slices_Equal_Item_B1
    refine Ok.iteB (fun hx => by simp only [decide_eq_true_eq] at hx; omega) (fun _ => Ok.some (Ok.some ⟨fun _ => ?_, fun _ => rfl⟩))
    rw [List.take_length, hlen, List.take_length] at hI
    exact hI
theorem cnt_pos {l : List GItem} (h : OP.Pos l) (z : GRec) : 0 ≤ cnt l z := by
  induction l with
  | nil => simp [cnt]
  | cons x l ih =>
    have h1 := h x (by simp)
    have h2 := ih fun y hy => h y (by simp [hy])
    simp only [cnt]
    split <;> omega
end BG
namespace CE
/-! What an operator makes of a slot; what a KTotal has come; what the law keeps beside the cell. -/
structure Fine (l : List GItem) : Prop where
  rt : Rt l
  pos : OP.Pos l
  big : BG.big l ≤ 65536
  len : l.length ≤ 65536
theorem Fine.nil : Fine [] := ⟨Rt.nil, by simp [OP.Pos], by simp [BG.big], by simp⟩
theorem there_good (a : List GItem) (h : a.length ≤ 60000) : OP.Good (there a) := ⟨(there_rt a).1, (there_rt a).2, by have := there_len a; omega⟩
theorem ports {a b : List GItem} (la : a.length ≤ 60000) (lb : b.length ≤ 60000) : f_ops_Apply_1 0 [a, b] = some (there a) ∧ f_ops_Apply_1 1 [a, b] = some (there b) := by
  have h : ∀ l ∈ [a, b], l.length < 1000000 := fun l hl => by
    rcases List.mem_cons.1 hl with rfl | hl
    · omega
    · rw [List.mem_singleton] at hl; rw [hl]; omega
  exact ⟨OP.port_ok (ports := [a, b]) 0 h, OP.port_ok (ports := [a, b]) 1 h⟩
theorem Apply_fact {x : GNode} {a b : List GItem} (la : a.length ≤ 60000) (lb : b.length ≤ 60000) : Ok (f_ops_Apply x [a, b]) (fun v => Fine v.1) := by
  obtain ⟨h1, h2⟩ := ports la lb
  refine (OP.Apply_ok h1 h2 (there_good a la) (there_good b lb)).mono fun v ⟨O, _, hO, hF⟩ => ?_
  rcases hF with ⟨_, hp, ht⟩ | ⟨_, hv, _⟩
  · have hpos : OP.Pos v.1 := fun y hy => by
      have h3 := hp.cnt y.Rec
      rw [cnt_of hp.rt.inc hy] at h3
      have h4 := cnt_pos hO y.Rec
      have h5 := (hp.rt.num y hy).1
      simp only [BG.cnt] at h3
      omega
    have htot : tot v.1 ≤ 65536 := by rw [hp.tot]; simp [BG.tot] at *; omega
    refine ⟨hp.rt, hpos, by rw [hpos.big]; exact htot, ?_⟩
    have := hpos.tot_nonneg
    omega
  · rw [hv]; exact Fine.nil
theorem there_nil : there [] = [] := there_pos Rt.nil (by simp)
theorem Apply_none {x : GNode} {b : List GItem} (h : x.Kind = 14 ∨ b = []) (lb : b.length ≤ 60000) : f_ops_Apply x [[], b] = some ([], true) := by
  obtain ⟨h1, h2⟩ := ports (a := []) (b := b) (by simp) lb
  rw [there_nil] at h1
  refine Ok.eq ((OP.Apply_ok h1 h2 (there_nil ▸ there_good [] (by simp)) (there_good b lb)).mono fun v ⟨O, hO, _, hF⟩ => ?_)
  have hO0 : O = [] := by
    unfold OP.Out at hO
    split at hO
    · rename_i h5
      rcases h with h | h
      · omega
      · rw [hO, h, there_nil]; rfl
    · split at hO
      · rw [hO]; rfl
      · split at hO
        · rw [hO]; rfl
        · split at hO
          · rw [hO]; rfl
          · split at hO
            · cases hq : O with
              | nil => rfl
              | cons o O' =>
                have := (hO.row o (by rw [hq]; simp)).2.2
                simp [OP.key] at this
            · exact hO
  subst hO0
  rcases hF with ⟨e1, hp, _⟩ | ⟨_, _, e3⟩
  · have := hp.len
    obtain ⟨v1, v2⟩ := v
    simp only [List.length_nil, Nat.add_zero, Nat.le_zero_eq] at this
    simp only at e1
    rw [List.length_eq_zero_iff.1 this, e1]
  · simp [BG.tot] at e3
def Psum : List GSlot → GTime → GRec → Int
  | [], _, _ => 0
  | s :: c, t, z => (if le s.Time t then cnt s.In.a0 z else 0) + Psum c t z
theorem Psum_append (a b : List GSlot) (t : GTime) (z : GRec) : Psum (a ++ b) t z = Psum a t z + Psum b t z := by
  induction a with
  | nil => simp [Psum]
  | cons x a ih => simp only [List.cons_append, Psum, ih]; omega
structure Small (l : List GItem) : Prop where
  rt : Rt l
  len : l.length ≤ 200
  big : BG.big l ≤ 25600
theorem past_ok {c : List GSlot} {t : GTime} (hs : ∀ s ∈ c, Small s.In.a0) (hc : c.length ≤ 200) : Ok (f_cell_past c t) (fun l => Rt l ∧ (∀ z, cnt l z = Psum c t z) ∧ l.length ≤ 60000) := by
  unfold f_cell_past
  refine Ok.each (l := c) (by omega) (fun i s => Rt s ∧ (∀ z, cnt s z = Psum (c.take i) t z) ∧ s.length ≤ 200 * i ∧ BG.big s ≤ 25600 * i) 0 (fun rec i hi s _ hI hr => ?_) (fun rec s hI => ?_) ⟨Rt.nil, fun z => by simp [cnt, Psum], by simp, by simp [BG.big]⟩ (Nat.zero_le _)
  · obtain ⟨h1, h2, h3, h4⟩ := hI
    have hm := hs _ (List.getElem_mem hi)
    have ht : ∀ z, Psum (c.take (i + 1)) t z = Psum (c.take i) t z + if le c[i].Time t then cnt c[i].In.a0 z else 0 := fun z => by
      rw [List.take_succ_eq_append_getElem hi, Psum_append]; simp [Psum]
    have hlen := hm.len
    have hbig := hm.big
    unfold f_cell_past_B1
    simp only
    refine Ok.iteB (fun _ => Ok.bind (Ok.idxN hi (Ok.bind (Ok.of_eq (le_eq _ _) ?_)))) (fun hx => by simp only [decide_eq_false_iff_not] at hx; omega)
    rw [wrap_i64 ((i : Int) + 1) (by omega)]
    refine Ok.iteB (fun hv => Ok.bind2 (Plus_ok h1 hm.rt (by omega) (by omega)) fun d hd => hr _ ⟨hd.rt, fun z => ?_, ?_, ?_⟩) (fun hv => hr _ ⟨h1, fun z => ?_, by omega, by omega⟩)
    · simp only [decide_eq_true_eq] at hv
      rw [hd.cnt, h2, ht, if_pos hv]
    · have := hd.len; omega
    · have := hd.big; omega
    · simp only [decide_eq_false_iff_not] at hv
      rw [h2, ht, if_neg hv]; omega
  · obtain ⟨h1, h2, h3, h4⟩ := hI
    rw [List.take_length] at h2
    unfold f_cell_past_B1
    simp only
    exact Ok.iteB (fun hx => by simp only [decide_eq_true_eq] at hx; omega) (fun _ => Ok.some ⟨h1, h2, by omega⟩)
abbrev Came := GBackwashlaw15_came
def at0 (l : List Came) (t : GTime) : List GItem := match l.find? (fun e => decide (e.time = t)) with | some e => e.in_.a0 | none => []
def at1 (l : List Came) (t : GTime) : List GItem := match l.find? (fun e => decide (e.time = t)) with | some e => e.in_.a1 | none => []
def has (l : List Came) (t : GTime) : Prop := ∃ e ∈ l, e.time = t
def Qsum : List Came → GTime → GRec → Int
  | [], _, _ => 0
  | s :: c, t, z => (if le s.time t then cnt s.in_.a0 z else 0) + Qsum c t z
theorem Qsum_append (a b : List Came) (t : GTime) (z : GRec) : Qsum (a ++ b) t z = Qsum a t z + Qsum b t z := by
  induction a with
  | nil => simp [Qsum]
  | cons x a ih => simp only [List.cons_append, Qsum, ih]; omega
def upE (p : Int) (nb : List GItem) (e : Came) : Came := ⟨e.time, if p = 0 then ⟨nb, e.in_.a1⟩ else ⟨e.in_.a0, nb⟩⟩
def atp (p : Int) (l : List Came) (t : GTime) : List GItem := if p = 0 then at0 l t else at1 l t
def Dist (l : List Came) : Prop := l.Pairwise (fun a b => a.time ≠ b.time)
structure More (l l' : List Came) (t : GTime) (p : Int) (nb : List GItem) : Prop where
  at_ : ∀ u, at0 l' u = (if u = t ∧ p = 0 then nb else at0 l u) ∧ at1 l' u = (if u = t ∧ p ≠ 0 then nb else at1 l u)
  sum : ∀ u z, Qsum l' u z = Qsum l u z + if p = 0 ∧ le t u then cnt nb z - cnt (at0 l t) z else 0
  dist : Dist l → Dist l'
  len : l'.length ≤ l.length + 1
  has : ∀ u, has l' u ↔ has l u ∨ u = t
theorem find_no {l : List Came} {t : GTime} (h : ∀ y ∈ l, y.time ≠ t) : l.find? (fun e => decide (e.time = t)) = none := List.find?_eq_none.2 fun x hx => by simpa using h x hx
theorem more_in {A B : List Came} {e : Came} {p : Int} {nb : List GItem} (hA : ∀ y ∈ A, y.time ≠ e.time) : More (A ++ e :: B) (A ++ upE p nb e :: B) e.time p nb := by
  have ht : (upE p nb e).time = e.time := rfl
  have hf := find_no hA
  have h0 : at0 (A ++ e :: B) e.time = e.in_.a0 := by
    unfold at0; rw [List.find?_append, hf, List.find?_cons, decide_eq_true rfl]; rfl
  refine ⟨fun u => ?_, fun u z => ?_, fun h => ?_, by simp, fun u => ?_⟩
  · by_cases hu : u = e.time
    · subst hu
      unfold at0 at1
      rw [List.find?_append, List.find?_append, hf, List.find?_cons, List.find?_cons, ht, decide_eq_true rfl]
      simp only [Option.none_or, upE, true_and]
      constructor
      · by_cases hp : p = 0
        · rw [if_pos hp, if_pos hp]
        · rw [if_neg hp, if_neg hp]
      · by_cases hp : p = 0
        · rw [if_pos hp, if_neg (by simpa using hp)]
        · rw [if_neg hp, if_pos hp]
    · have : ∀ C : Came, C.time = e.time → (A ++ C :: B).find? (fun e => decide (e.time = u)) = (A ++ B).find? (fun e => decide (e.time = u)) := fun C hC => by
        rw [List.find?_append, List.find?_append, List.find?_cons, decide_eq_false (by rw [hC]; exact fun h => hu h.symm)]
      unfold at0 at1
      rw [this _ ht, this _ rfl, if_neg (fun h => hu h.1), if_neg (fun h => hu h.1)]
      exact ⟨rfl, rfl⟩
  · rw [h0, Qsum_append, Qsum_append]
    simp only [Qsum, ht]
    unfold upE
    by_cases hp : p = 0
    · simp only [if_pos hp]
      by_cases hl : le e.time u
      · rw [if_pos hl, if_pos hl, if_pos ⟨hp, hl⟩]; omega
      · rw [if_neg hl, if_neg hl, if_neg (fun h => hl h.2)]; omega
    · simp only [if_neg hp]
      rw [if_neg (show ¬ (p = 0 ∧ le e.time u) from fun h => hp h.1)]; omega
  · unfold Dist at *
    have h1 := List.pairwise_append.1 h
    have h2 := List.pairwise_cons.1 h1.2.1
    refine List.pairwise_append.2 ⟨h1.1, List.pairwise_cons.2 ⟨h2.1, h2.2⟩, fun a ha b hb => ?_⟩
    rcases List.mem_cons.1 hb with rfl | hb
    · exact h1.2.2 a ha e (by simp)
    · exact h1.2.2 a ha b (by simp [hb])
  · unfold has
    constructor
    · rintro ⟨y, hy, rfl⟩
      rcases List.mem_append.1 hy with hy | hy
      · exact .inl ⟨y, by simp [hy], rfl⟩
      · rcases List.mem_cons.1 hy with rfl | hy
        · exact .inr rfl
        · exact .inl ⟨y, by simp [hy], rfl⟩
    · rintro (⟨y, hy, rfl⟩ | rfl)
      · rcases List.mem_append.1 hy with hy | hy
        · exact ⟨y, by simp [hy], rfl⟩
        · rcases List.mem_cons.1 hy with rfl | hy
          · exact ⟨upE p nb y, by simp, rfl⟩
          · exact ⟨y, by simp [hy], rfl⟩
      · exact ⟨upE p nb e, by simp, rfl⟩
theorem more_new {l : List Came} {t : GTime} {p : Int} {nb : List GItem} (hl : ∀ y ∈ l, y.time ≠ t) : More l (l ++ [upE p nb ⟨t, ⟨[], []⟩⟩]) t p nb := by
  have hf := find_no hl
  have h0 : at0 l t = [] := by unfold at0; rw [hf]
  have h1 : at1 l t = [] := by unfold at1; rw [hf]
  refine ⟨fun u => ?_, fun u z => ?_, fun h => ?_, by simp, fun u => ?_⟩
  · by_cases hu : u = t
    · subst hu
      rw [h0, h1]
      unfold at0 at1
      rw [List.find?_append, hf, List.find?_cons, show (upE p nb ⟨u, ⟨[], []⟩⟩).time = u from rfl, decide_eq_true rfl]
      simp only [Option.none_or, upE, true_and]
      constructor
      · by_cases hp : p = 0
        · rw [if_pos hp, if_pos hp]
        · rw [if_neg hp, if_neg hp]
      · by_cases hp : p = 0
        · rw [if_pos hp, if_neg (by simpa using hp)]
        · rw [if_neg hp, if_pos hp]
    · unfold at0 at1
      rw [List.find?_append, List.find?_cons, show (upE p nb ⟨t, ⟨[], []⟩⟩).time = t from rfl, decide_eq_false (fun h => hu h.symm), if_neg (fun h => hu h.1), if_neg (fun h => hu h.1)]
      simp
  · rw [h0, Qsum_append]
    simp only [Qsum]
    unfold upE
    by_cases hp : p = 0
    · simp only [if_pos hp]
      by_cases hl : le t u
      · rw [if_pos hl, if_pos ⟨hp, hl⟩]; simp [cnt]
      · rw [if_neg hl, if_neg (fun h => hl h.2)]; omega
    · simp only [if_neg hp]
      rw [if_neg (show ¬ (p = 0 ∧ le t u) from fun h => hp h.1)]
      split <;> simp [cnt]
  · unfold Dist at *
    refine List.pairwise_append.2 ⟨h, by simp, fun a ha b hb => ?_⟩
    rw [List.mem_singleton] at hb; subst hb
    exact hl a ha
  · unfold has
    constructor
    · rintro ⟨y, hy, rfl⟩
      rcases List.mem_append.1 hy with hy | hy
      · exact .inl ⟨y, hy, rfl⟩
      · rw [List.mem_singleton] at hy; subst hy; exact .inr rfl
    · rintro (⟨y, hy, rfl⟩ | rfl)
      · exact ⟨y, by simp [hy], rfl⟩
      · exact ⟨upE p nb ⟨u, ⟨[], []⟩⟩, by simp, rfl⟩
theorem more_ok {l : List Came} {t : GTime} {p : Int} {b nb : List GItem} (hp : p = 0 ∨ p = 1) (hl : l.length < 1000000) (h : f_bag_Plus (atp p l t) b = some nb) : Ok (f_backwashlaw15_more_s0_0 l t p b) (fun l' => More l l' t p nb) := by
  have hpr : 0 ≤ p ∧ p < 2 := by omega
  unfold f_backwashlaw15_more_s0_0
  refine Ok.each1 (l := l) (by omega) (fun i => ∀ y ∈ l.take i, y.time ≠ t) 0 (fun rec i hi _ hI hr => ?_) (fun rec hI => ?_) (by simp) (Nat.zero_le _)
  · unfold f_backwashlaw15_more_s0_0_B2
    refine Ok.iteB (fun _ => Ok.bind (Ok.idxN hi ?_)) (fun hx => by simp only [decide_eq_false_iff_not] at hx; omega)
    rw [teq, wrap_i64 ((i : Int) + 1) (by omega)]
    refine Ok.iteB (fun he => ?_) (fun he => hr ((all_take_succ hi).2 ⟨hI, by simpa using he⟩))
    simp only [decide_eq_true_eq] at he
    have hsplit : l = l.take i ++ l[i] :: l.drop (i + 1) := by rw [← List.drop_eq_getElem_cons hi, List.take_append_drop]
    have hfind : l.find? (fun e => decide (e.time = t)) = some l[i] := by
      conv => lhs; rw [hsplit]
      rw [List.find?_append, find_no hI, List.find?_cons, decide_eq_true he]; rfl
    have hset : ∀ y, List.set l (Int.toNat (i : Int)) y = l.take i ++ y :: l.drop (i + 1) := fun y => by
      rw [Int.toNat_natCast, List.set_eq_take_append_cons_drop, if_pos hi]
    have fin : ∀ w0 w1, (⟨l[i].time, (⟨w0, w1⟩ : Arr2 (List GItem))⟩ : Came) = upE p nb l[i] → More l (List.set l (Int.toNat (i : Int)) (⟨l[i].time, (⟨w0, w1⟩ : Arr2 (List GItem))⟩ : Came)) t p nb := fun w0 w1 hw => by
      rw [hset, hw]
      have := more_in (B := l.drop (i + 1)) (p := p) (nb := nb) (A := l.take i) (e := l[i]) (fun y hy => by rw [he]; exact hI y hy)
      rw [← hsplit, he] at this
      exact this
    rcases hp with rfl | rfl
    · have h' : f_bag_Plus l[i].in_.a0 b = some nb := by
        unfold atp at0 at h; rw [hfind] at h; exact h
      exact Ok.guard (by omega) (Ok.bind (Ok.some (Ok.bind (Ok.of_eq h' (Ok.guard (by omega) (Ok.bind (Ok.some (Ok.bind (Ok.some (Ok.some (fin _ _ rfl)))))))))))
    · have h' : f_bag_Plus l[i].in_.a1 b = some nb := by
        unfold atp at1 at h; rw [hfind] at h; exact h
      exact Ok.guard (by omega) (Ok.bind (Ok.some (Ok.bind (Ok.of_eq h' (Ok.guard (by omega) (Ok.bind (Ok.some (Ok.bind (Ok.some (Ok.some (fin _ _ rfl)))))))))))
  · unfold f_backwashlaw15_more_s0_0_B2
    refine Ok.iteB (fun hx => by simp only [decide_eq_true_eq] at hx; omega) (fun _ => ?_)
    rw [List.take_length] at hI
    unfold f_backwashlaw15_more_s0_0_J1
    have hfind := find_no hI
    have h' : f_bag_Plus [] b = some nb := by
      unfold atp at0 at1 at h; rw [hfind] at h; simpa using h
    have fin := more_new (p := p) (nb := nb) hI
    rcases hp with rfl | rfl
    · exact Ok.bind (Ok.of_eq h' (Ok.guard (by omega) (Ok.bind (Ok.some (Ok.bind (Ok.some (Ok.guard (by simp; omega) (Ok.some fin))))))))
    · exact Ok.bind (Ok.of_eq h' (Ok.guard (by omega) (Ok.bind (Ok.some (Ok.bind (Ok.some (Ok.guard (by simp; omega) (Ok.some fin))))))))
theorem atL_ok {l : List Came} {t : GTime} (hl : l.length < 1000000) : f_backwashlaw15_at l t = some (at0 l t) := by
  refine Ok.eq ?_
  unfold f_backwashlaw15_at
  refine Ok.each1 (l := l) (by omega) (fun i => (l.take i).find? (fun e => decide (e.time = t)) = none) 0 (fun rec i hi _ hI hr => ?_) (fun rec hI => ?_) (by simp) (Nat.zero_le _)
  · unfold f_backwashlaw15_at_B1
    refine Ok.iteB (fun _ => Ok.bind (Ok.idxN hi ?_)) (fun hx => by simp only [decide_eq_false_iff_not] at hx; omega)
    rw [teq, wrap_i64 ((i : Int) + 1) (by omega)]
    refine Ok.iteB (fun h => Ok.some ?_) (fun h => hr ?_)
    · have : l.find? (fun e => decide (e.time = t)) = some l[i] := by
        conv => lhs; rw [← List.take_append_drop i l]
        rw [List.find?_append, hI, List.drop_eq_getElem_cons hi, List.find?_cons, h]; rfl
      unfold at0; rw [this]
    · rw [List.take_succ_eq_append_getElem hi, List.find?_append, hI]
      simp only [decide_eq_false_iff_not] at h
      simp [h]
  · rw [List.take_length] at hI
    unfold f_backwashlaw15_at_B1
    refine Ok.iteB (fun hx => by simp at hx) (fun _ => Ok.some ?_)
    unfold at0; rw [hI]
theorem makes_ok {x : GNode} {l : List Came} {t : GTime} {ps : List GItem} (hd : Dist l) (hl : l.length ≤ 200) (hs : ∀ e ∈ l, Small e.in_.a0) (hps : Rt ps) (hpc : ∀ z, cnt ps z = Qsum l t z) {v : List GItem × Bool} (h : f_ops_Apply x [at0 l t, if x.Kind = 14 then ps else at1 l t] = some v) : f_backwashlaw15_makes x l t = some v := by
  refine Ok.eq ?_
  unfold f_backwashlaw15_makes
  refine Ok.eachG (l := l) (by omega) (fun i (s : List GItem × List GItem × List GItem) => (s.1, s.2.1, i, s.2.2)) (fun q => q.2.2.1) (fun _ _ => rfl) (fun i s => s.1 = at0 (l.take i) t ∧ s.2.1 = at1 (l.take i) t ∧ Rt s.2.2 ∧ (∀ z, cnt s.2.2 z = Qsum (l.take i) t z) ∧ s.2.2.length ≤ 200 * i ∧ BG.big s.2.2 ≤ 25600 * i) 0 (fun rec i hi s _ hI hr => ?_) (fun rec s hI => ?_) (s0 := ([], [], [])) ⟨rfl, rfl, Rt.nil, fun z => by simp [cnt, Qsum], by simp, by simp [BG.big]⟩ (Nat.zero_le _)
  · obtain ⟨a, b, p⟩ := s
    obtain ⟨ha, hb, h1, h2, h3, h4⟩ := hI
    simp only at ha hb h1 h2 h3 h4
    have hm := hs _ (List.getElem_mem hi)
    have hlen := hm.len
    have hbig := hm.big
    have ht : ∀ z, Qsum (l.take (i + 1)) t z = Qsum (l.take i) t z + if le l[i].time t then cnt l[i].in_.a0 z else 0 := fun z => by
      rw [List.take_succ_eq_append_getElem hi, Qsum_append]; simp [Qsum]
    have j4 : ∀ a' b', a' = at0 (l.take (i + 1)) t → b' = at1 (l.take (i + 1)) t → Ok (f_backwashlaw15_makes_J4 l t (i : Int) p rec a' b') (fun r => r = v) := fun a' b' ha' hb' => by
      unfold f_backwashlaw15_makes_J4
      refine Ok.bind (Ok.idxN hi (Ok.bind (Ok.of_eq (le_eq _ _) ?_)))
      rw [wrap_i64 ((i : Int) + 1) (by omega)]
      refine Ok.iteB (fun hv => Ok.bind2 (Plus_ok h1 hm.rt (by omega) (by omega)) fun d hd => hr (a', b', d) ⟨ha', hb', hd.rt, fun z => ?_, ?_, ?_⟩) (fun hv => hr (a', b', p) ⟨ha', hb', h1, fun z => ?_, by simp only; omega, by simp only; omega⟩)
      · simp only [decide_eq_true_eq] at hv
        show cnt d z = _
        rw [hd.cnt, h2, ht, if_pos hv]
      · have := hd.len; simp only; omega
      · have := hd.big; simp only; omega
      · simp only [decide_eq_false_iff_not] at hv
        show cnt p z = _
        rw [h2, ht, if_neg hv]; omega
    unfold f_backwashlaw15_makes_B3
    refine Ok.iteB (fun _ => Ok.bind (Ok.idxN hi ?_)) (fun hx => by simp only [decide_eq_false_iff_not] at hx; omega)
    rw [teq]
    have hts : ∀ u, (l.take (i + 1)).find? (fun e => decide (e.time = u)) = ((l.take i).find? (fun e => decide (e.time = u))).or (if l[i].time = u then some l[i] else none) := fun u => by
      rw [List.take_succ_eq_append_getElem hi, List.find?_append, List.find?_cons]
      by_cases hu : l[i].time = u
      · rw [if_pos hu, decide_eq_true hu]
      · rw [if_neg hu, decide_eq_false hu]; rfl
    refine Ok.iteB (fun he => ?_) (fun he => ?_)
    · simp only [decide_eq_true_eq] at he
      have hno : (l.take i).find? (fun e => decide (e.time = t)) = none := find_no fun y hy => by
        obtain ⟨j, hj, rfl⟩ := List.mem_iff_getElem.1 hy
        rw [List.length_take] at hj
        rw [List.getElem_take, ← he]
        exact (List.pairwise_iff_getElem.1 hd) j i (by omega) hi (by omega)
      refine j4 _ _ ?_ ?_
      · unfold at0; rw [hts, hno, if_pos he]; rfl
      · unfold at1; rw [hts, hno, if_pos he]; rfl
    · simp only [decide_eq_false_iff_not] at he
      refine j4 _ _ ?_ ?_
      · show a = _
        rw [ha]; unfold at0; rw [hts, if_neg he, Option.or_none]
      · show b = _
        rw [hb]; unfold at1; rw [hts, if_neg he, Option.or_none]
  · obtain ⟨a, b, p⟩ := s
    obtain ⟨ha, hb, h1, h2, h3, h4⟩ := hI
    simp only at ha hb h1 h2 h3 h4
    rw [List.take_length] at ha hb h2
    have hp : p = ps := Rt.unique h1 hps fun z => by rw [h2, hpc]
    subst hp ha hb
    unfold f_backwashlaw15_makes_B3
    refine Ok.iteB (fun hx => by simp at hx) (fun _ => ?_)
    unfold f_backwashlaw15_makes_J1
    refine Ok.iteB (fun hk => ?_) (fun hk => ?_)
    · simp only [beq_iff_eq] at hk
      rw [if_pos hk] at h
      exact Ok.bind (Ok.of_eq h (Ok.some rfl))
    · simp only [beq_eq_false_iff_ne, ne_eq] at hk
      rw [if_neg hk] at h
      exact Ok.bind (Ok.of_eq h (Ok.some rfl))
end CE
end Go.Proofs.Ythpahhhdapdcpaa
