/-
  The law in plain words: what its plain function gives is true. No condition beyond those that each theorem names.
-/
import Derived.Test.YthpahhhdapdcpaaP11g
import Derived.Test.YthpahhhdapdcpaaWalkOK1
set_option linter.unusedSimpArgs false
set_option linter.unusedVariables false
namespace Go.Proofs.Ythpahhhdapdcpaa
open Go Go.RowKit BG
namespace OP
/-! Operators that go by keys. -/
theorem cnt_key (r : GRec) : ∀ l : List GItem, cnt (key r.K l) r = cnt l r
  | [] => rfl
  | x :: l => by
    have ih := cnt_key r l
    unfold key at ih ⊢
    rw [List.filter_cons]
    by_cases h : x.Rec.K = r.K
    · rw [if_pos (by simpa using h)]
      simp only [cnt, ih]
    · rw [if_neg (by simpa using h), ih]
      simp only [cnt]
      rw [if_neg (fun e => h (by rw [e]))]; omega
theorem key_one1 (k : Int) (A : List GItem) : key k (one1 A) = one1 (key k A) := by
  unfold key one1
  rw [List.filter_map]; rfl
theorem key_key (k : Int) (b : List GItem) : key k (key k b) = key k b := key_all fun x hx => by simpa using (List.mem_filter.1 hx).2
theorem jrow_K {x : GItem} {b : List GItem} : ∀ z ∈ jrow x b, z.Rec.K = x.Rec.K := fun z hz => by
  obtain ⟨y, _, rfl⟩ := List.mem_map.1 hz
  exact (plusS_eq _ _ _).2
theorem key_jn (k : Int) (b : List GItem) : ∀ A : List GItem, key k (jn A b) = jn (key k A) (key k b)
  | [] => rfl
  | x :: A => by
    have ih := key_jn k b A
    have e : jn (x :: A) b = jrow x b ++ jn A b := by rw [← jn_one, ← jn_append]; rfl
    rw [e, key_append, ih]
    by_cases h : x.Rec.K = k
    · have e2 : key k (x :: A) = [x] ++ key k A := by unfold key; rw [List.filter_cons, if_pos (by simpa using h)]; rfl
      rw [e2, jn_append, jn_one, key_all (fun z hz => by rw [jrow_K z hz, h])]
      congr 1
      unfold jrow
      rw [h, key_key]
    · have e2 : key k (x :: A) = key k A := by unfold key; rw [List.filter_cons, if_neg (by simpa using h)]
      rw [e2, key_none (fun z hz => by rw [jrow_K z hz]; exact h), List.nil_append]
theorem Gr.cnt {kind : Int} {A B O : List GItem} (h : Gr kind A B O) (r : GRec) : BG.cnt O r = if key r.K A = [] then 0 else if recG kind r.K (key r.K A) (key r.K B) = r then 1 else 0 := by
  have hlt : O.Pairwise (fun p q => lt p.Rec q.Rec) := h.inc.imp fun hab => .inl hab
  by_cases hk : key r.K A = []
  · rw [if_pos hk]
    refine cnt_none fun o ho e => ?_
    have := (h.row o ho).2.2
    rw [e] at this
    exact this hk
  · rw [if_neg hk]
    obtain ⟨x, l, hx⟩ := List.exists_cons_of_ne_nil hk
    have hxm : x ∈ key r.K A := by rw [hx]; exact List.mem_cons_self
    have hxk : x.Rec.K = r.K := by simpa using (List.mem_filter.1 hxm).2
    obtain ⟨o, ho, hok⟩ := h.all x (List.mem_filter.1 hxm).1
    rw [hxk] at hok
    have hrow := h.row o ho
    rw [hok] at hrow
    have hco := cnt_of hlt ho
    by_cases hr : recG kind r.K (key r.K A) (key r.K B) = r
    · rw [if_pos hr]
      have : o.Rec = r := hrow.2.1.trans hr
      rw [this] at hco
      rw [hco, hrow.1]
    · rw [if_neg hr]
      refine cnt_none fun y hy e => hr ?_
      have hyk : y.Rec.K = o.Rec.K := by rw [e, hok]
      have : y = o := by
        obtain ⟨i, hi, rfl⟩ := List.mem_iff_getElem.1 hy
        obtain ⟨j, hj, rfl⟩ := List.mem_iff_getElem.1 ho
        have hp := List.pairwise_iff_getElem.1 h.inc
        rcases Nat.lt_trichotomy i j with g | g | g
        · have := hp i j hi hj g; omega
        · subst g; rfl
        · have := hp j i hj hi g; omega
      rw [← hrow.2.1, ← this, e]
def ByKey (k : Int) : Prop := k = 6 ∨ k = 7 ∨ k = 8 ∨ k = 9 ∨ k = 14
theorem ByKey.lin {k : Int} (h : ByKey k) : linS k = false ∧ k ≠ 5 := by
  rcases h with rfl | rfl | rfl | rfl | rfl <;> exact ⟨by decide, by decide⟩
theorem Out_key {x : GNode} {A B O : List GItem} (hk : ByKey x.Kind) (h : Out x A B O) : (x.Kind = 8 ∧ O = one1 A) ∨ (x.Kind = 9 ∧ O = jn A B) ∨ (x.Kind ≠ 8 ∧ x.Kind ≠ 9 ∧ Gr x.Kind A B O) := by
  obtain ⟨h1, h2⟩ := hk.lin
  unfold Out at h
  rw [if_neg h2, if_neg (by rw [h1]; simp)] at h
  by_cases h8 : x.Kind = 8
  · rw [if_pos h8] at h; exact .inl ⟨h8, h⟩
  · rw [if_neg h8] at h
    by_cases h9 : x.Kind = 9
    · rw [if_pos h9] at h; exact .inr (.inl ⟨h9, h⟩)
    · rw [if_neg h9, if_pos (by unfold ByKey at hk; omega)] at h
      exact .inr (.inr ⟨h8, h9, h⟩)
theorem Out_local {x : GNode} {A B O A' B' O' : List GItem} (hk : ByKey x.Kind) (h : Out x A B O) (h' : Out x A' B' O') (r : GRec)
    (eA : key r.K A = key r.K A') (eB : key r.K B = key r.K B') : cnt O r = cnt O' r := by
  rcases Out_key hk h with ⟨h8, rfl⟩ | ⟨h9, rfl⟩ | ⟨h8, h9, hg⟩ <;> rcases Out_key hk h' with ⟨g8, rfl⟩ | ⟨g9, rfl⟩ | ⟨g8, g9, hg'⟩ <;> first | omega | skip
  · rw [← cnt_key r (one1 A), ← cnt_key r (one1 A'), key_one1, key_one1, eA]
  · rw [← cnt_key r (jn A B), ← cnt_key r (jn A' B'), key_jn, key_jn, eA, eB]
  · rw [hg.cnt, hg'.cnt, eA, eB]
theorem Out_none {x : GNode} {A B O : List GItem} (hk : ByKey x.Kind) (h : Out x A B O) (r : GRec) (eA : key r.K A = []) : cnt O r = 0 := by
  rcases Out_key hk h with ⟨h8, rfl⟩ | ⟨h9, rfl⟩ | ⟨h8, h9, hg⟩
  · rw [← cnt_key r (one1 A), key_one1, eA]; rfl
  · rw [← cnt_key r (jn A B), key_jn, eA]; rfl
  · rw [hg.cnt, if_pos eA]
theorem tot_jrow {x : GItem} {b : List GItem} (hx : 0 < x.N) (hb : Pos b) : tot (jrow x b) ≤ x.N * tot b := by
  induction b with
  | nil => simp [jrow, key, tot]
  | cons y b ih =>
    have ih := ih fun z hz => hb z (by simp [hz])
    have hy := hb y (by simp)
    have e : jrow x (y :: b) = jrow x [y] ++ jrow x b := jrow_append x [y] b
    have h1 : tot (y :: b) = y.N + tot b := by simp [tot]
    have h2 : tot (jrow x [y]) ≤ x.N * y.N := by
      unfold jrow key
      rw [List.filter_cons]
      have := Int.mul_pos hx hy
      split
      · simp [tot]
      · simp [tot]; omega
    rw [e, tot_append, h1, Int.mul_add]; omega
theorem tot_jn {A b : List GItem} (hA : Pos A) (hb : Pos b) : tot (jn A b) ≤ tot A * tot b := by
  induction A with
  | nil => simp [jn, tot]
  | cons x A ih =>
    have ih := ih fun z hz => hA z (by simp [hz])
    have e : jn (x :: A) b = jrow x b ++ jn A b := by rw [← jn_one, ← jn_append]; rfl
    have h1 : tot (x :: A) = x.N + tot A := by simp [tot]
    have := tot_jrow (hA x (by simp)) hb
    rw [e, tot_append, h1, Int.add_mul]; omega
theorem Out_tot {x : GNode} {A B O : List GItem} (hk : ByKey x.Kind) (h : Out x A B O) (pA : Pos A) (pB : Pos B) (tA : tot A ≤ 60) (tB : tot B ≤ 60) : tot O ≤ 3600 := by
  have hA := pA.tot_nonneg
  have hB := pB.tot_nonneg
  rcases Out_key hk h with ⟨h8, rfl⟩ | ⟨h9, rfl⟩ | ⟨h8, h9, hg⟩
  · have : tot (one1 A) = (A.length : Int) := by
      clear h tA hA pA
      induction A with
      | nil => rfl
      | cons y A ih => simp only [one1, tot, List.map_cons, List.sum_cons, List.length_cons] at *; omega
    omega
  · have h1 := tot_jn pA pB
    have h2 := Int.mul_le_mul tA tB (by omega) (show (0 : Int) ≤ 60 by omega)
    omega
  · have := hg.small; omega
theorem key_rt {k : Int} {A : List GItem} (h : Rt A) : Rt (key k A) := ⟨h.inc.sublist List.filter_sublist, fun x hx => h.num x (List.mem_filter.1 hx).1⟩
theorem cnt_key2 (k : Int) (r : GRec) (A : List GItem) : cnt (key k A) r = if r.K = k then cnt A r else 0 := by
  by_cases h : r.K = k
  · rw [if_pos h, ← h, cnt_key]
  · rw [if_neg h]
    refine cnt_none fun x hx e => h ?_
    rw [← e]; simpa using (List.mem_filter.1 hx).2
theorem cnt_ones_filter (p : GRec → Bool) (r : GRec) : ∀ l : List GRec, cnt (ones (l.filter p)) r = if p r = true then cnt (ones l) r else 0
  | [] => by simp [ones, cnt]
  | q :: l => by
    have ih := cnt_ones_filter p r l
    simp only [ones] at ih
    simp only [ones, List.filter_cons, List.map_cons, cnt]
    by_cases hq : p q = true
    · rw [if_pos hq]
      simp only [List.map_cons, cnt, ih]
      by_cases hr : p r = true
      · rw [if_pos hr, if_pos hr]
      · rw [if_neg hr, if_neg hr, if_neg (fun e => hr (by rw [← e]; exact hq))]; omega
    · rw [if_neg hq, ih]
      by_cases hr : p r = true
      · rw [if_pos hr, if_pos hr, if_neg (fun e => hq (by rw [e]; exact hr))]; omega
      · rw [if_neg hr, if_neg hr]
/-- A part of the records: its bag's items of a key. -/
theorem key_part_of {l : List GRec} {n k : Int} {A Ak : List GItem} (hA : Puts [] A (ones l)) (hk : Puts [] Ak (ones (l.filter fun r => decide (r.K % n = k)))) (κ : Int) : key κ Ak = if κ % n = k then key κ A else [] := by
  split
  · rename_i h
    refine (key_rt hk.rt).unique (key_rt hA.rt) fun r => ?_
    rw [cnt_key2, cnt_key2]
    by_cases hr : r.K = κ
    · rw [if_pos hr, if_pos hr, hk.cnt, hA.cnt, cnt_ones_filter, if_pos (by rw [hr]; simpa using h)]
    · rw [if_neg hr, if_neg hr]
  · rename_i h
    refine key_none fun x hx e => ?_
    have h1 := cnt_of hk.rt.inc hx
    have h2 := (hk.rt.num x hx).1
    rw [hk.cnt, cnt_ones_filter, if_neg (by rw [e]; simpa using h)] at h1
    simp only [cnt] at h1
    omega
theorem some_ok {l : List GRec} {n k : Int} (hl : l.length ≤ 60) (hn : 1 ≤ n ∧ n ≤ 5) : f_backwashlaw11_some l n k = some (l.filter fun r => decide (r.K % n = k)) := by
  refine Ok.eq ?_
  unfold f_backwashlaw11_some
  refine Ok.each (l := l) (by omega) (fun i s => s = (l.take i).filter fun r => decide (r.K % n = k)) 0 (fun rec i hi s _ hs hr => ?_) (fun rec s hs => ?_) (by simp) (Nat.zero_le _)
  · have hlen : s.length ≤ i := by
      rw [hs]
      refine Nat.le_trans (List.length_filter_le _ _) ?_
      rw [List.length_take]; omega
    unfold f_backwashlaw11_some_B1
    simp only
    refine Ok.iteB (fun _ => Ok.bind (Ok.idxN hi (Ok.guard (by omega) ?_))) (fun hx => by simp only [decide_eq_false_iff_not] at hx; omega)
    have hJ : ∀ m, m = l[i].K % n → Ok (f_backwashlaw11_some_J2 k (i : Int) s rec l[i] m) (fun r => r = l.filter fun r => decide (r.K % n = k)) := fun m hm => by
      unfold f_backwashlaw11_some_J2
      rw [wrap_i64 ((i : Int) + 1) (by omega), hm]
      refine Ok.iteB (fun hx => Ok.guard (by simp; omega) (hr _ ?_)) (fun hx => hr _ ?_)
      · rw [List.take_succ_eq_append_getElem hi, List.filter_append, hs, List.filter_cons, if_pos (by simpa using hx)]; rfl
      · rw [List.take_succ_eq_append_getElem hi, List.filter_append, hs, List.filter_cons, if_neg (by simpa using hx)]; simp
    have h0 := Int.emod_nonneg l[i].K (show n ≠ 0 by omega)
    have h1 := Int.emod_lt_of_pos l[i].K (show 0 < n by omega)
    have ht := Int.tmod_eq_emod (a := l[i].K) (b := n)
    generalize l[i].K.tmod n = t at ht ⊢
    generalize l[i].K % n = e at ht h0 h1 hJ
    by_cases hc : 0 ≤ l[i].K ∨ n ∣ l[i].K
    · rw [if_pos hc] at ht
      refine Ok.iteB (fun hx => ?_) (fun hx => hJ _ (by omega))
      simp only [decide_eq_true_eq] at hx
      omega
    · rw [if_neg hc] at ht
      refine Ok.iteB (fun hx => hJ _ ?_) (fun hx => ?_)
      · rw [wrap_i64 _ (by omega)]; omega
      · simp only [decide_eq_false_iff_not] at hx
        omega
  · rw [List.take_length] at hs
    unfold f_backwashlaw11_some_B1
    simp only
    exact Ok.iteB (fun hx => by simp only [decide_eq_true_eq] at hx; omega) (fun _ => Ok.some hs)
end OP
end Go.Proofs.Ythpahhhdapdcpaa

