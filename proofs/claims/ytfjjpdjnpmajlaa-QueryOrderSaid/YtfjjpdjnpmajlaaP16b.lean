/-
  The law in plain words: what its plain function gives is true. No condition beyond those that each theorem names.
-/
import Derived.Test.YtfjjpdjnpmajlaaP16a
import Derived.Test.YtfjjpdjnpmajlaaWalkQO1
set_option linter.unusedSimpArgs false
set_option linter.unusedVariables false
namespace Go.Proofs.Ytfjjpdjnpmajlaa
open Go Go.RowKit Go.Sort
namespace QY
def eqB (x y : GRow) : Bool := ((x.K == y.K) && ((x.Many == y.Many) && ((x.Least == y.Least) && ((x.Top == y.Top) && ((x.Sum == y.Sum) && (x.Sure == y.Sure))))))
theorem eqB_self (x : GRow) : eqB x x = true := by simp [eqB]
theorem QueryOrder_holds (rows : List GRow) (measure many : Int) (_ : Dat.ok rows) (_ : inI .i64 measure) (hmany : inI .i64 many) : f_backwashlaw32_QueryOrder rows measure many = some true := by
  have hmany := inI_i64 hmany
  refine Ok.eq ?_
  unfold f_backwashlaw32_QueryOrder
  refine Ok.bind (Ok.of_eq awake_ok (Ok.iteB (fun h => by cases h) (fun _ => Ok.guard (by omega) ?_)))
  generalize hL : List.take (Int.toNat (min (List.length rows : Int) 100)) rows = L
  have hLl : L.length ≤ 100 := by rw [← hL, List.length_take]; omega
  refine Ok.bind2 (First_ok (measure := measure) (many := many) hLl) fun F hF => ?_
  rcases hF with ⟨hbad, rfl⟩ | ⟨hgood, T, hp, hs, rfl⟩
  · refine Ok.iteB (fun _ => Ok.some rfl) (fun hx => ?_)
    simp only [Bool.or_eq_false_iff, decide_eq_false_iff_not] at hx
    unfold badM at hbad; omega
  unfold badM at hgood
  refine Ok.iteB (fun hx => by simp only [Bool.or_eq_true, decide_eq_true_eq] at hx; omega) (fun _ => ?_)
  have hTl : T.length = L.length := by rw [hp.length_eq, List.length_zipIdx]
  have hperm : (T.map Prod.fst).Perm L := by
    have := hp.map Prod.fst
    rwa [show L.zipIdx.map Prod.fst = L by simp] at this
  generalize hn : (min (L.length : Int) many).toNat = n
  have hFl : ((T.map Prod.fst).take n).length = n := by rw [List.length_take, List.length_map]; omega
  have hFg : ∀ i (h1 : i < ((T.map Prod.fst).take n).length) (h2 : i < T.length), ((T.map Prod.fst).take n)[i] = T[i].1 := fun i h1 h2 => by rw [List.getElem_take, List.getElem_map]
  have hmono : ∀ i j (hij : i ≤ j) (hj : j < T.length), meas T[j].1 measure ≤ meas (T[i]'(by omega)).1 measure := fun i j hij hj => by
    have := srt_lt hs i j hij hj (ltM_swo measure)
    rw [ltM_not] at this; omega
  have hcnt : ∀ x, ((T.map Prod.fst).take n).countP (fun z => eqB z x) ≤ L.countP (fun z => eqB z x) := fun x => by
    refine Nat.le_trans ((List.take_sublist _ _).countP_le) (Nat.le_of_eq (hperm.countP_eq _))
  generalize hF : (T.map Prod.fst).take n = F at *
  have hmin : (F.length : Int) = min (L.length : Int) many := by omega
  refine Ok.iteB (fun hx => ?_) (fun _ => ?_)
  · rw [hmin] at hx; simp at hx
  -- the second half
  have hJ1 : Ok (f_backwashlaw32_QueryOrder_J1 rows measure F) (fun r => r = true) := by
    unfold f_backwashlaw32_QueryOrder_J1
    refine Ok.each1 (l := L) (by omega) (fun _ => True) 0 (fun rec i hi _ _ hr => ?_) (fun rec _ => ?_) trivial (Nat.zero_le _)
    · unfold f_backwashlaw32_QueryOrder_B2
      rw [hL]
      refine Ok.iteB (fun hx => ?_) (fun _ => Ok.some rfl)
      simp only [Bool.and_eq_true, decide_eq_true_eq] at hx
      have hw : IntKind.i64.wrap ((i : Int) + 1) = ((i + 1 : Nat) : Int) := by rw [wrap_i64 _ (by omega)]; omega
      refine Ok.loop0 (fun s => ∃ q : Nat, s.2 = (q : Int) ∧ q ≤ n ∧ (s.1 = false → ∀ p (hp : p < q) (hpn : p < F.length), eqB F[p] L[i] = false)) (fun s => n - s.2.toNat) ?_ ⟨0, rfl, Nat.zero_le _, fun _ p hp => by omega⟩ (by simp only [rounds]; omega)
      rintro rec4 ⟨found, t⟩ ⟨q, ht, hq, hinv⟩ hr4
      simp only at ht hinv
      subst ht
      unfold f_backwashlaw32_QueryOrder_B4
      rw [hL]
      simp only
      have hw4 : q < n → IntKind.i64.wrap ((q : Int) + 1) = ((q + 1 : Nat) : Int) := fun h => by rw [wrap_i64 _ (by omega)]; omega
      refine Ok.iteB (fun hc => ?_) (fun hc => ?_)
      · simp only [decide_eq_true_eq] at hc
        have hqn : q < n := by omega
        rw [hw4 hqn]
        refine Ok.iteB (fun hf => hr4 _ ⟨q + 1, rfl, by omega, fun h => by cases h⟩ (by simp only [Int.toNat_natCast]; omega)) (fun hf => ?_)
        refine Ok.bind (Ok.idxN (by omega) (Ok.bind (Ok.idxN hi (hr4 _ ⟨q + 1, rfl, by omega, fun h p hp hpn => ?_⟩ (by simp only [Int.toNat_natCast]; omega)))))
        rcases Nat.lt_or_ge p q with hpq | hpq
        · exact hinv hf p hpq hpn
        · obtain rfl : p = q := by omega
          exact h
      · simp only [decide_eq_false_iff_not] at hc
        have hqn : q = n := by omega
        unfold f_backwashlaw32_QueryOrder_J3
        rw [hL, hw]
        refine Ok.iteB (fun _ => hr trivial) (fun hf => ?_)
        have hlast : IntKind.i64.wrap ((F.length : Int) - 1) = ((n - 1 : Nat) : Int) := by rw [wrap_i64 _ (by omega)]; omega
        rw [hlast]
        refine Ok.bind (Ok.idxN hi (Ok.bind (Ok.of_eq (Measure_eq _ _) (Ok.bind (Ok.idxN (by omega) (Ok.bind (Ok.of_eq (Measure_eq _ _) (Ok.iteB (fun hlt => ?_) (fun _ => hr trivial)))))))))
        exfalso
        simp only [decide_eq_true_eq] at hlt
        have hm : L[i] ∈ T.map Prod.fst := hperm.mem_iff.2 (List.getElem_mem hi)
        obtain ⟨j, hj, hje⟩ := List.mem_iff_getElem.1 hm
        rw [List.length_map] at hj
        rw [List.getElem_map] at hje
        rcases Nat.lt_or_ge j n with hjn | hjn
        · have := hinv hf j (by omega) (by omega)
          rw [hFg j (by omega) (by omega), hje, eqB_self] at this
          cases this
        · have := hmono (n - 1) j (by omega) hj
          rw [hje] at this
          rw [hFg (n - 1) (by omega) (by omega)] at hlt
          omega
    · unfold f_backwashlaw32_QueryOrder_B2
      rw [hL]
      refine Ok.iteB (fun hx => ?_) (fun _ => Ok.some rfl)
      simp only [Bool.and_eq_true, decide_eq_true_eq] at hx
      omega
  -- the first half
  refine Ok.each1 (l := F) (by omega) (fun _ => True) 0 (fun rec i hi _ _ hr => ?_) (fun rec _ => ?_) trivial (Nat.zero_le _)
  rotate_left
  · unfold f_backwashlaw32_QueryOrder_B5
    exact Ok.iteB (fun hx => by simp only [decide_eq_true_eq] at hx; omega) (fun _ => hJ1)
  have hw : IntKind.i64.wrap ((i : Int) + 1) = ((i + 1 : Nat) : Int) := by rw [wrap_i64 _ (by omega)]; omega
  have cnt_step : ∀ (l : List GRow) (k : Nat) (hk : k < l.length) (x : GRow) (c : Int), c = ((l.take k).countP (fun z => eqB z x) : Int) → (if eqB l[k] x = true then c + 1 else c) = ((l.take (k + 1)).countP (fun z => eqB z x) : Int) := fun l k hk x c hc => by
    rw [List.take_succ_eq_append_getElem hk, List.countP_append, List.countP_singleton]
    split <;> simp_all
  unfold f_backwashlaw32_QueryOrder_B5
  refine Ok.iteB (fun _ => ?_) (fun hx => by simp only [decide_eq_false_iff_not] at hx; omega)
  refine Ok.iteB (fun hi0 => ?_) (fun hi0 => ?_)
  · simp only [decide_eq_true_eq] at hi0
    rw [show IntKind.i64.wrap ((i : Int) - 1) = ((i - 1 : Nat) : Int) by rw [wrap_i64 _ (by omega)]; omega]
    refine Ok.bind (Ok.idxN (by omega) (Ok.bind (Ok.of_eq (Measure_eq _ _) (Ok.bind (Ok.idxN hi (Ok.bind (Ok.of_eq (Measure_eq _ _) (Ok.iteB (fun hlt => ?_) (fun _ => ?_)))))))))
    · exfalso
      simp only [decide_eq_true_eq] at hlt
      rw [hFg i (by omega) (by omega), hFg (i - 1) (by omega) (by omega)] at hlt
      have := hmono (i - 1) i (by omega) (by omega)
      omega
    · generalize F[i] = x
      refine Ok.loop0 (fun s => ∃ k : Nat, s.2 = (k : Int) ∧ k ≤ L.length ∧ s.1 = ((L.take k).countP (fun z => eqB z x) : Int)) (fun s => L.length - s.2.toNat) ?_ ⟨0, rfl, Nat.zero_le _, by simp⟩ (by simp only [rounds]; omega)
      rintro rec2 ⟨c, t⟩ ⟨k, ht, hk, hcc⟩ hr2
      simp only at ht hcc
      subst ht
      have hcb := List.countP_le_length (p := fun z => eqB z x) (l := L.take k)
      rw [List.length_take] at hcb
      unfold f_backwashlaw32_QueryOrder_B13
      rw [hL]
      simp only
      refine Ok.iteB (fun hy => ?_) (fun hy => ?_)
      · simp only [decide_eq_true_eq] at hy
        have hkl : k < L.length := by omega
        have hst := cnt_step L k hkl x c hcc
        rw [wrap_i64 (c + 1) (by omega), wrap_i64 ((k : Int) + 1) (by omega)]
        refine Ok.bind (Ok.idxN hkl (Ok.iteB (fun he => ?_) (fun he => ?_)))
        · rw [if_pos (show eqB L[k] x = true from he)] at hst
          exact hr2 _ ⟨k + 1, by simp, by omega, hst⟩ (by simp only; omega)
        · rw [if_neg (by rw [show eqB L[k] x = false from he]; simp)] at hst
          exact hr2 _ ⟨k + 1, by simp, by omega, hst⟩ (by simp only; omega)
      · simp only [decide_eq_false_iff_not] at hy
        have hkl : k = L.length := by omega
        rw [hkl, List.take_length] at hcc
        unfold f_backwashlaw32_QueryOrder_J10
        refine Ok.loop0 (fun s => ∃ k : Nat, s.2 = (k : Int) ∧ k ≤ F.length ∧ s.1 = ((F.take k).countP (fun z => eqB z x) : Int)) (fun s => F.length - s.2.toNat) ?_ ⟨0, rfl, Nat.zero_le _, by simp⟩ (by simp only [rounds]; omega)
        rintro rec3 ⟨d, t⟩ ⟨k, ht, hk, hdd⟩ hr3
        simp only at ht hdd
        subst ht
        have hdb := List.countP_le_length (p := fun z => eqB z x) (l := F.take k)
        rw [List.length_take] at hdb
        unfold f_backwashlaw32_QueryOrder_B12
        simp only
        refine Ok.iteB (fun hz => ?_) (fun hz => ?_)
        · simp only [decide_eq_true_eq] at hz
          have hkl : k < F.length := by omega
          have hst := cnt_step F k hkl x d hdd
          rw [wrap_i64 (d + 1) (by omega), wrap_i64 ((k : Int) + 1) (by omega)]
          refine Ok.bind (Ok.idxN hkl (Ok.iteB (fun he => ?_) (fun he => ?_)))
          · rw [if_pos (show eqB F[k] x = true from he)] at hst
            exact hr3 _ ⟨k + 1, by simp, by omega, hst⟩ (by simp only; omega)
          · rw [if_neg (by rw [show eqB F[k] x = false from he]; simp)] at hst
            exact hr3 _ ⟨k + 1, by simp, by omega, hst⟩ (by simp only; omega)
        · simp only [decide_eq_false_iff_not] at hz
          have hkl : k = F.length := by omega
          rw [hkl, List.take_length] at hdd
          unfold f_backwashlaw32_QueryOrder_J11
          have := hcnt x
          rw [hw]
          exact Ok.iteB (fun hb => by simp only [decide_eq_true_eq] at hb; omega) (fun _ => hr trivial)
  · have hi00 : i = 0 := by simp only [decide_eq_false_iff_not] at hi0; omega
    refine Ok.loop0 (fun s => ∃ k : Nat, s.2 = (k : Int) ∧ k ≤ L.length ∧ s.1 = ((L.take k).countP (fun z => eqB z F[i]) : Int)) (fun s => L.length - s.2.toNat) ?_ ⟨0, rfl, Nat.zero_le _, by simp⟩ (by simp only [rounds]; omega)
    rintro rec2 ⟨c, t⟩ ⟨k, ht, hk, hcc⟩ hr2
    simp only at ht hcc
    subst ht
    have hcb := List.countP_le_length (p := fun z => eqB z F[i]) (l := L.take k)
    rw [List.length_take] at hcb
    unfold f_backwashlaw32_QueryOrder_B9
    rw [hL]
    simp only
    refine Ok.iteB (fun hy => ?_) (fun hy => ?_)
    · simp only [decide_eq_true_eq] at hy
      have hkl : k < L.length := by omega
      have hst := cnt_step L k hkl F[i] c hcc
      rw [wrap_i64 (c + 1) (by omega), wrap_i64 ((k : Int) + 1) (by omega)]
      refine Ok.bind (Ok.idxN hkl (Ok.bind (Ok.idxN hi (Ok.iteB (fun he => ?_) (fun he => ?_)))))
      · rw [if_pos (show eqB L[k] F[i] = true from he)] at hst
        exact hr2 _ ⟨k + 1, by simp, by omega, hst⟩ (by simp only; omega)
      · rw [if_neg (by rw [show eqB L[k] F[i] = false from he]; simp)] at hst
        exact hr2 _ ⟨k + 1, by simp, by omega, hst⟩ (by simp only; omega)
    · simp only [decide_eq_false_iff_not] at hy
      have hkl : k = L.length := by omega
      rw [hkl, List.take_length] at hcc
      unfold f_backwashlaw32_QueryOrder_J6
      refine Ok.loop0 (fun s => ∃ k : Nat, s.2 = (k : Int) ∧ k ≤ F.length ∧ s.1 = ((F.take k).countP (fun z => eqB z F[i]) : Int)) (fun s => F.length - s.2.toNat) ?_ ⟨0, rfl, Nat.zero_le _, by simp⟩ (by simp only [rounds]; omega)
      rintro rec3 ⟨d, t⟩ ⟨k, ht, hk, hdd⟩ hr3
      simp only at ht hdd
      subst ht
      have hdb := List.countP_le_length (p := fun z => eqB z F[i]) (l := F.take k)
      rw [List.length_take] at hdb
      unfold f_backwashlaw32_QueryOrder_B8
      simp only
      refine Ok.iteB (fun hz => ?_) (fun hz => ?_)
      · simp only [decide_eq_true_eq] at hz
        have hkl : k < F.length := by omega
        have hst := cnt_step F k hkl F[i] d hdd
        rw [wrap_i64 (d + 1) (by omega), wrap_i64 ((k : Int) + 1) (by omega)]
        refine Ok.bind (Ok.idxN hkl (Ok.bind (Ok.idxN hi (Ok.iteB (fun he => ?_) (fun he => ?_)))))
        · rw [if_pos (show eqB F[k] F[i] = true from he)] at hst
          exact hr3 _ ⟨k + 1, by simp, by omega, hst⟩ (by simp only; omega)
        · rw [if_neg (by rw [show eqB F[k] F[i] = false from he]; simp)] at hst
          exact hr3 _ ⟨k + 1, by simp, by omega, hst⟩ (by simp only; omega)
      · simp only [decide_eq_false_iff_not] at hz
        have hkl : k = F.length := by omega
        rw [hkl, List.take_length] at hdd
        unfold f_backwashlaw32_QueryOrder_J7
        have := hcnt F[i]
        rw [hw]
        exact Ok.iteB (fun hb => by simp only [decide_eq_true_eq] at hb; omega) (fun _ => hr trivial)
end QY
end Go.Proofs.Ytfjjpdjnpmajlaa

