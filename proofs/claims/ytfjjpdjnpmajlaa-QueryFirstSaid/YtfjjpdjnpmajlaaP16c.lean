/-
  The law in plain words: what its plain function gives is true. No condition beyond those that each theorem names.
-/
import Derived.Test.YtfjjpdjnpmajlaaP16a
import Derived.Test.YtfjjpdjnpmajlaaWalkQF0
set_option linter.unusedSimpArgs false
set_option linter.unusedVariables false
namespace Go.Proofs.Ytfjjpdjnpmajlaa
open Go Go.RowKit Go.Sort
namespace QY
theorem tl_tag {lt : GRow → GRow → Bool} {p q : GRow × Nat} (h1 : tl lt p q = false) (h2 : tl lt q p = false) : p.2 = q.2 := by
  rw [tl_false] at h1 h2
  have a : ¬ p.2 < q.2 := by
    rcases h1.2 with h | h
    · rw [h2.1] at h; cases h
    · exact h
  have b : ¬ q.2 < p.2 := by
    rcases h2.2 with h | h
    · rw [h1.1] at h; cases h
    · exact h
  omega
theorem tag_eq {l : List GRow} {p q : GRow × Nat} (hp : p ∈ l.zipIdx) (hq : q ∈ l.zipIdx) (h : p.2 = q.2) : p = q := by
  obtain ⟨x, i⟩ := p
  obtain ⟨y, j⟩ := q
  simp only at h
  subst h
  have h1 := List.mem_zipIdx_iff_getElem?.1 hp
  have h2 := List.mem_zipIdx_iff_getElem?.1 hq
  simp only at h1 h2
  rw [h1] at h2
  simp only [Option.some.injEq] at h2
  rw [h2]
theorem refFirst_ok {rows : List GRow} {measure many : Int} (hl : rows.length ≤ 100) {T : TS} (hp : T.Perm rows.zipIdx) (hs : Srt (ltM measure) T) (hm : 0 ≤ measure ∧ measure ≤ 3) :
    Ok (f_backwashref32_First rows measure many) (fun r => r = (T.map Prod.fst).take (min (rows.length : Int) many).toNat) := by
  have hO := ltM_swo measure
  have hTl : T.length = rows.length := by rw [hp.length_eq, List.length_zipIdx]
  unfold f_backwashref32_First
  refine Ok.iteB (fun hx => by simp only [Bool.or_eq_true, decide_eq_true_eq] at hx; omega) (fun _ => Ok.guard (by simp; omega) ?_)
  refine Ok.loop0 (fun s => ∃ (j : Nat) (W : TS), j ≤ T.length ∧ s.1 = (T.take j).map Prod.fst ∧ s.2 = W.map Prod.fst ∧ W.Perm (T.drop j) ∧ W.Pairwise (fun p q => p.2 < q.2) ∧ ((j : Int) ≤ many ∨ j = 0)) (fun s => s.2.length) ?_
    ⟨0, rows.zipIdx, Nat.zero_le _, by simp, by simp, by simpa using hp.symm, by
      refine List.pairwise_iff_getElem.2 fun i j hi hj hij => ?_
      simp only [List.getElem_zipIdx]; omega, .inr rfl⟩ (by simp only [rounds, List.nil_append]; omega)
  rintro rec ⟨out, left⟩ ⟨j, W, hj, hout, hleft, hperm, htag, hmany⟩ hr
  simp only at hout hleft
  subst hout hleft
  have hWl : W.length = T.length - j := by rw [hperm.length_eq, List.length_drop]
  have hol : ((T.take j).map Prod.fst).length = j := by rw [List.length_map, List.length_take]; omega
  unfold f_backwashref32_First_B1
  simp only
  rw [hol, List.length_map]
  refine Ok.iteB (fun hx => ?_) (fun hx => Ok.some ?_)
  rotate_left
  · simp only [Bool.and_eq_false_iff, decide_eq_false_iff_not] at hx
    rw [← List.map_take]
    congr 2
    omega
  simp only [Bool.and_eq_true, decide_eq_true_eq] at hx
  have hjT : j < T.length := by omega
  refine Ok.loop0 (fun s => ∃ b i : Nat, s.1 = (b : Int) ∧ s.2 = (i : Int) ∧ b < i ∧ i ≤ W.length ∧ ∀ q (hq : q < i) (hq' : q < W.length) (hb : b < W.length), tl (ltM measure) W[q] W[b] = false) (fun s => W.length - s.2.toNat) ?_
    ⟨0, 1, rfl, rfl, by omega, by omega, fun q hq hq' hb => by
      obtain rfl : q = 0 := by omega
      rw [tl_false]; exact ⟨hO.irrefl _, .inr (by omega)⟩⟩ (by simp only [rounds]; omega)
  rintro rec3 ⟨best, t⟩ ⟨b, i, hb, ht, hbi, hi, hmin⟩ hr3
  simp only at hb ht
  subst hb ht
  have hbW : b < W.length := by omega
  unfold f_backwashref32_First_B3
  simp only
  rw [List.length_map]
  refine Ok.iteB (fun hy => ?_) (fun hy => ?_)
  · simp only [decide_eq_true_eq] at hy
    have hiW : i < W.length := by omega
    have hbt : W[b].2 < W[i].2 := List.pairwise_iff_getElem.1 htag b i hbW hiW hbi
    have hne : ltM measure W[i].1 W[b].1 = false → ∀ q (hq : q < i + 1) (hq' : q < W.length) (hb : b < W.length), tl (ltM measure) W[q] W[b] = false := fun h q hq hq' hb => by
      rcases Nat.lt_or_ge q i with hqi | hqi
      · exact hmin q hqi hq' hb
      · obtain rfl : q = i := by omega
        rw [tl_low hbt]; exact h
    have hyes : ltM measure W[i].1 W[b].1 = true → ∀ q (hq : q < i + 1) (hq' : q < W.length) (hb : i < W.length), tl (ltM measure) W[q] W[i] = false := fun h q hq hq' hb => by
      rcases Nat.lt_or_ge q i with hqi | hqi
      · exact tl_ntrans hO _ _ _ (hmin q hqi hq' hbW) (tl_as hO _ _ (by rw [tl_low hbt]; exact h))
      · obtain rfl : q = i := by omega
        rw [tl_false]; exact ⟨hO.irrefl _, .inr (by omega)⟩
    rw [wrap_i64 ((i : Int) + 1) (by omega)]
    refine Ok.bind (Ok.idxN (by rw [List.length_map]; exact hiW) (Ok.bind (Ok.of_eq (Measure_eq _ _) (Ok.bind (Ok.idxN (by rw [List.length_map]; exact hbW) (Ok.bind (Ok.of_eq (Measure_eq _ _) ?_)))))))
    simp only [List.getElem_map]
    refine Ok.iteB (fun h1 => ?_) (fun h1 => Ok.iteB (fun h2 => Ok.iteB (fun h3 => ?_) (fun h3 => ?_)) (fun h2 => ?_))
    · simp only [decide_eq_true_eq] at h1
      exact hr3 _ ⟨i, i + 1, rfl, by simp, by omega, by omega, hyes (ltM_iff.2 (.inl h1))⟩ (by simp only; omega)
    · simp only [beq_iff_eq, decide_eq_true_eq] at h2 h3
      exact hr3 _ ⟨i, i + 1, rfl, by simp, by omega, by omega, hyes (ltM_iff.2 (.inr ⟨h2.symm, h3⟩))⟩ (by simp only; omega)
    · simp only [decide_eq_false_iff_not, beq_iff_eq] at h1 h2 h3
      exact hr3 _ ⟨b, i + 1, rfl, by simp, by omega, by omega, hne (ltM_not.2 (by omega))⟩ (by simp only; omega)
    · simp only [decide_eq_false_iff_not, beq_eq_false_iff_ne, ne_eq] at h1 h2
      exact hr3 _ ⟨b, i + 1, rfl, by simp, by omega, by omega, hne (ltM_not.2 (by omega))⟩ (by simp only; omega)
  · simp only [decide_eq_false_iff_not] at hy
    have hiW : i = W.length := by omega
    have hTd : T.drop j = T[j] :: T.drop (j + 1) := List.drop_eq_getElem_cons hjT
    have hbest : W[b] = T[j] := by
      have hmT : T[j] ∈ W := hperm.mem_iff.2 (by rw [hTd]; exact List.mem_cons_self)
      obtain ⟨q, hq, hqe⟩ := List.mem_iff_getElem.1 hmT
      have h1 := hmin q (by omega) hq hbW
      rw [hqe] at h1
      have hmW : W[b] ∈ T.drop j := hperm.mem_iff.1 (List.getElem_mem hbW)
      rw [hTd] at hmW
      rcases List.mem_cons.1 hmW with h | h
      · exact h
      · obtain ⟨r, hr', hre⟩ := List.mem_iff_getElem.1 h
        rw [List.length_drop] at hr'
        rw [List.getElem_drop] at hre
        have h2 := List.pairwise_iff_getElem.1 hs j (j + 1 + r) hjT (by omega) (by omega)
        rw [hre] at h2
        refine tag_eq (hp.mem_iff.1 (List.drop_sublist j T |>.subset (by rw [hTd]; exact hmW))) (hp.mem_iff.1 (List.getElem_mem hjT)) (tl_tag h2 h1)
    have hWs : W = W.take b ++ W[b] :: W.drop (b + 1) := by
      rw [← List.drop_eq_getElem_cons hbW, List.take_append_drop]
    have hW' : (W.take b ++ W.drop (b + 1)).Perm (T.drop (j + 1)) := by
      have h1 : (W[b] :: (W.take b ++ W.drop (b + 1))).Perm W := by
        refine List.perm_middle.symm.trans (List.Perm.of_eq hWs.symm)
      have h2 := h1.trans hperm
      rw [hTd, hbest] at h2
      exact h2.cons_inv
    unfold f_backwashref32_First_J2
    simp only [List.length_map]
    refine Ok.bind (Ok.idxN (by rw [List.length_map]; exact hbW) ?_)
    rw [wrap_i64 ((b : Int) + 1) (by omega)]
    have e1 : Int.toNat (b : Int) = b := by simp
    have e2 : Int.toNat ((b : Int) + 1) = b + 1 := by omega
    simp only [e1, e2]
    refine Ok.guard (by simp; omega) (Ok.guard (by omega) (Ok.guard (by simp; omega) (Ok.guard (by omega) (Ok.guard (by simp; omega) ?_))))
    refine hr _ ⟨j + 1, W.take b ++ W.drop (b + 1), by omega, ?_, ?_, hW', ?_, .inl (by omega)⟩ ?_
    · simp only [List.getElem_map]
      rw [List.take_succ_eq_append_getElem hjT, List.map_append, hbest]; rfl
    · simp only [List.nil_append, List.drop_zero]
      have e3 : List.take (W.length - (b + 1)) (List.drop (b + 1) (W.map Prod.fst)) = List.drop (b + 1) (W.map Prod.fst) := List.take_of_length_le (by rw [List.length_drop, List.length_map]; omega)
      rw [e3, List.map_append, List.map_take, List.map_drop]
    · rw [hWs] at htag
      rw [List.pairwise_append] at htag ⊢
      have := List.pairwise_cons.1 htag.2.1
      exact ⟨htag.1, this.2, fun p hp q hq => htag.2.2 p hp q (List.mem_cons_of_mem _ hq)⟩
    · simp; omega
theorem QueryFirst_holds (rows : List GRow) (measure many : Int) (_ : Dat.ok rows) (_ : inI .i64 measure) (_ : inI .i64 many) : f_backwashlaw32_QueryFirst rows measure many = some true := by
  refine Ok.eq ?_
  unfold f_backwashlaw32_QueryFirst
  refine Ok.bind (Ok.of_eq awake_ok (Ok.iteB (fun h => by cases h) (fun _ => Ok.guard (by omega) ?_)))
  generalize hL : List.take (Int.toNat (min (List.length rows : Int) 100)) rows = L
  have hLl : L.length ≤ 100 := by rw [← hL, List.length_take]; omega
  refine Ok.guard (by simp; omega) ?_
  rw [List.nil_append]
  have hend : ∀ F : List GRow, F.length ≤ 100 → Ok (bindO (f_backwashref32_Same F F) fun v_3 => if v_3 = true then bindO (f_backwashref32_Same L L) fun v_4 => some v_4 else some false) (fun r => r = true) := fun F hF =>
    Ok.bind (Ok.of_eq (same_refl F (by omega)) (Ok.iteB (fun _ => Ok.bind (Ok.of_eq (same_refl L (by omega)) (Ok.some rfl))) (fun h => by cases h)))
  refine Ok.bind2 (First_ok (measure := measure) (many := many) hLl) fun F hF => ?_
  rcases Classical.em (0 ≤ measure ∧ measure ≤ 3) with hm | hm
  · rcases hF with ⟨hbad, rfl⟩ | ⟨_, T, hp, hs, rfl⟩
    · -- fewer than one is asked for
      have hmany : many < 1 := by unfold badM at hbad; omega
      obtain ⟨r, hr1, hr2, hr3⟩ := SortStable_ok (cmp := fun a b => f_query_First_1 a b measure) (cmpM_eq measure) (ltM_swo measure) (data := L) (by omega)
      obtain ⟨T, _, hp, hs⟩ := hr2
      refine Ok.bind ((refFirst_ok (many := many) hLl hp hs hm).mono fun r hr => ?_)
      have : r = [] := by rw [hr, show (min (L.length : Int) many).toNat = 0 by omega]; simp
      subst this
      exact hend [] (by simp)
    · refine Ok.bind ((refFirst_ok (many := many) hLl hp hs hm).mono fun r hr => ?_)
      subst hr
      have hTl : T.length = L.length := by rw [hp.length_eq, List.length_zipIdx]
      exact hend _ (by rw [List.length_take, List.length_map]; omega)
  · rcases hF with ⟨_, rfl⟩ | ⟨hgood, _⟩
    · refine Ok.bind (show Ok (f_backwashref32_First L measure many) _ from ?_)
      unfold f_backwashref32_First
      refine Ok.iteB (fun _ => Ok.some (hend [] (by simp))) (fun hx => ?_)
      simp only [Bool.or_eq_false_iff, decide_eq_false_iff_not] at hx
      omega
    · unfold badM at hgood; omega
end QY
end Go.Proofs.Ytfjjpdjnpmajlaa

