/-
  The law in plain words: what its plain function gives is true. No condition beyond those that each theorem names.
-/
import Derived.Test.YthpahhhdapdcpaaP11j
set_option linter.unusedSimpArgs false
set_option linter.unusedVariables false
namespace Go.Proofs.Ythpahhhdapdcpaa
open Go Go.RowKit BG
namespace OP
theorem Apply_key {x : GNode} {A B : List GItem} (hk : ByKey x.Kind) (rA : Rt A) (pA : Pos A) (tA : tot A ≤ 60) (rB : Rt B) (pB : Pos B) (tB : tot B ≤ 60) :
    Ok (f_ops_Apply x [A, B]) (fun v => ∃ O, Out x A B O ∧ Pos O ∧ tot O ≤ 3600 ∧ v.2 = true ∧ Puts [] v.1 O) := by
  have hA := pA.tot_nonneg
  have hB := pB.tot_nonneg
  have hl : ∀ l ∈ [A, B], l.length < 1000000 := by
    intro l hl
    simp at hl
    rcases hl with rfl | rfl <;> omega
  have p0 : f_ops_Apply_1 0 [A, B] = some A := by
    refine Eq.trans (port_ok (ports := [A, B]) 0 hl) ?_
    show some (there A) = _
    rw [there_pos rA pA]
  have p1 : f_ops_Apply_1 1 [A, B] = some B := by
    refine Eq.trans (port_ok (ports := [A, B]) 1 hl) ?_
    show some (there B) = _
    rw [there_pos rB pB]
  refine (Apply_ok (x := x) p0 p1 ⟨rA, pA, by omega⟩ ⟨rB, pB, by omega⟩).mono fun v ⟨O, hO, pO, hF⟩ => ⟨O, hO, pO, Out_tot hk hO pA pB tA tB, ?_⟩
  have := Out_tot hk hO pA pB tA tB
  rcases hF with ⟨h1, h2, _⟩ | ⟨_, _, h⟩
  · exact ⟨h1, h2⟩
  · omega
theorem OpsKeys_holds (x : GNode) (a b : List GRec) (mod : Int) (_ : Dat.ok x) (_ : Dat.ok a) (_ : Dat.ok b) (hm : inI .u8 mod) : f_backwashlaw11_OpsKeys x a b mod = some true := by
  have hm' := inI_u8 hm
  refine Ok.eq ?_
  unfold f_backwashlaw11_OpsKeys
  refine Ok.bind (Ok.of_eq awake_ok (Ok.iteB (fun h => by cases h) (fun _ => Ok.iteB (fun _ => Ok.some rfl) (fun hx => Ok.guard (by omega) (Ok.guard (by omega) ?_)))))
  have hk : ByKey x.Kind := by
    have h1 : ¬ x.Kind < 6 ∧ (9 < x.Kind → x.Kind = 14) := by simpa using hx
    unfold ByKey
    by_cases h9 : 9 < x.Kind
    · have := h1.2 h9; omega
    · omega
  have hN : IntKind.i64.wrap (IntKind.i64.wrap (Int.tmod mod 5) + 1) = mod % 5 + 1 := by
    have h := Int.tmod_eq_emod (a := mod) (b := 5)
    rw [if_pos (.inl hm'.1)] at h
    have h' : Int.tmod mod 5 = mod % 5 := by omega
    rw [h', wrap_i64 (mod % 5) (by omega), wrap_i64 _ (by omega)]
  generalize hn : mod % 5 + 1 = n at hN
  have hn5 : 1 ≤ n ∧ n ≤ 5 := by omega
  generalize hAL : List.take (Int.toNat (min (List.length a : Int) 60)) a = AL
  generalize hBL : List.take (Int.toNat (min (List.length b : Int) 60)) b = BL
  have lA : AL.length ≤ 60 := by rw [← hAL, List.length_take]; omega
  have lB : BL.length ≤ 60 := by rw [← hBL, List.length_take]; omega
  refine Ok.bind2 (Of_good lA) fun A ⟨A1, A2, A3, A4, _⟩ => Ok.bind2 (Of_good lB) fun B ⟨B1, B2, B3, B4, _⟩ => ?_
  refine Ok.bind2 (Apply_key hk A2 A3 (by omega) B2 B3 (by omega)) fun v ⟨O, hO, pO, tO, v1, v2⟩ => ?_
  refine Ok.loop0 (fun s => ∃ k : Nat, s.1 = (k : Int) ∧ (k : Int) ≤ n ∧ Rt s.2 ∧ Pos s.2 ∧ tot s.2 ≤ 3600 * (k : Int) ∧ ∀ r, cnt s.2 r = if r.K % n < (k : Int) then cnt O r else 0) (fun s => (n - s.1).toNat) ?_
    ⟨0, rfl, by omega, Rt.nil, by simp [Pos], by simp [tot], fun r => by
      have := Int.emod_nonneg r.K (show n ≠ 0 by omega)
      rw [if_neg (by omega)]; rfl⟩ (by simp only [rounds]; omega)
  rintro rec ⟨_, S⟩ ⟨k, rfl, hkn, S1, S2, S3, S4⟩ hr
  simp only at S1 S2 S3 S4
  unfold f_backwashlaw11_OpsKeys_B2
  rw [hN, hAL, hBL]
  simp only
  refine Ok.iteB (fun hc => ?_) (fun hc => ?_)
  · simp only [decide_eq_true_eq] at hc
    have fA := List.length_filter_le (fun r : GRec => decide (r.K % n = (k : Int))) AL
    have fB := List.length_filter_le (fun r : GRec => decide (r.K % n = (k : Int))) BL
    refine Ok.bind (Ok.of_eq (some_ok lA hn5) (Ok.bind2 (Of_good (by omega)) fun Ak ⟨C1, C2, C3, C4, _⟩ => ?_))
    refine Ok.bind (Ok.of_eq (some_ok lB hn5) (Ok.bind2 (Of_good (by omega)) fun Bk ⟨D1, D2, D3, D4, _⟩ => ?_))
    refine Ok.bind2 (Apply_key hk C2 C3 (by omega) D2 D3 (by omega)) fun w ⟨Ok', hO', pO', tO', w1, w2⟩ => ?_
    rw [w1]
    have hwt := w2.tot
    have e0 : tot ([] : List GItem) = 0 := rfl
    refine Ok.iteB (fun hx => by cases hx) (fun _ => Ok.bind2 (Plus_good S1 S2 w2.rt (Puts.pos w2 pO') (by omega)) fun T ⟨T1', T2, T3, T4⟩ => ?_)
    rw [wrap_i64 ((k : Int) + 1) (by omega)]
    refine hr _ ⟨k + 1, rfl, by omega, T2, T3, by simp only; omega, fun r => ?_⟩ (by simp only; omega)
    have hkA := key_part_of A1 C1 r.K
    have hkB := key_part_of B1 D1 r.K
    simp only
    rw [T1'.cnt, S4, w2.cnt]
    have hl0 : cnt Ok' r = if r.K % n = (k : Int) then cnt O r else 0 := by
      by_cases h : r.K % n = (k : Int)
      · rw [if_pos h] at hkA hkB ⊢
        exact Out_local hk hO' hO r hkA hkB
      · rw [if_neg h] at hkA ⊢
        exact Out_none hk hO' r hkA
    rw [hl0]
    simp only [cnt]
    by_cases g1 : r.K % n < (k : Int)
    · rw [if_pos g1, if_neg (by omega), if_pos (by omega)]; omega
    · rw [if_neg g1]
      by_cases g2 : r.K % n = (k : Int)
      · rw [if_pos g2, if_pos (by omega)]; omega
      · rw [if_neg g2, if_neg (by omega)]; omega
  · simp only [decide_eq_false_iff_not] at hc
    have hkn' : (k : Int) = n := by omega
    unfold f_backwashlaw11_OpsKeys_J1
    rw [v1]
    refine Ok.iteB (fun _ => ?_) (fun hx => by cases hx)
    have : v.1 = S := v2.rt.unique S1 fun r => by
      have := Int.emod_lt_of_pos r.K (show 0 < n by omega)
      rw [S4, if_pos (by omega), v2.cnt]; simp [cnt]
    have hSl := S2.tot_nonneg
    rw [this]
    exact Ok.bind (Ok.of_eq (Same_refl (by omega)) (Ok.some rfl))
end OP
end Go.Proofs.Ythpahhhdapdcpaa

