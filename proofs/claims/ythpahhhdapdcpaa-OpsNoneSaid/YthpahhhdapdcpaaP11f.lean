/-
  The law in plain words: what its plain function gives is true. No condition beyond those that each theorem names.
-/
import Derived.Test.YthpahhhdapdcpaaP11e
import Derived.Test.YthpahhhdapdcpaaWalkON1
set_option linter.unusedSimpArgs false
set_option linter.unusedVariables false
namespace Go.Proofs.Ythpahhhdapdcpaa
open Go Go.RowKit BG
namespace OP
theorem short_ok {x : GNode} {ports : List (List GItem)} (hp : ports.length ≤ 1000) : Ok (f_backwashlaw11_short x ports) (fun r => r = true → ∀ l ∈ ports, l.length ≤ 60) := by
  unfold f_backwashlaw11_short
  refine Ok.iteB (fun _ => Ok.some (fun h => by cases h)) (fun _ => ?_)
  refine Ok.each1 (l := ports) (by omega) (fun i => ∀ l ∈ ports.take i, l.length ≤ 60) 0 (fun rec i hi _ hI hr => ?_) (fun rec hI => ?_) (by simp) (Nat.zero_le _)
  · unfold f_backwashlaw11_short_B1
    refine Ok.iteB (fun _ => Ok.bind (Ok.idxN hi (Ok.iteB (fun _ => Ok.some (fun h => by cases h)) (fun hx => ?_)))) (fun hx => by simp only [decide_eq_false_iff_not] at hx; omega)
    simp only [decide_eq_false_iff_not] at hx
    rw [wrap_i64 ((i : Int) + 1) (by omega)]
    exact hr ((all_take_succ hi).2 ⟨hI, by omega⟩)
  · unfold f_backwashlaw11_short_B1
    refine Ok.iteB (fun hx => by simp only [decide_eq_true_eq] at hx; omega) (fun _ => Ok.some (fun _ => ?_))
    rw [List.take_length] at hI; exact hI
theorem good_there {b : List GItem} (h : b.length ≤ 60000) : Good (there b) := ⟨(there_rt b).1, (there_rt b).2, Nat.le_trans (there_len b) h⟩
theorem good_nil : Good [] := ⟨Rt.nil, by simp [Pos], by simp⟩
theorem Out_nil {x : GNode} {O : List GItem} (h : Out x [] [] O) : O = [] := by
  unfold Out at h
  split at h
  · rw [h]; rfl
  · split at h
    · rw [h]; rfl
    · split at h
      · rw [h]; rfl
      · split at h
        · rw [h]; rfl
        · split at h
          · cases O with
            | nil => rfl
            | cons o O => exact absurd rfl (h.row o (by simp)).2.2
          · exact h
theorem nil_of_puts {c : List GItem} (h : Puts [] c []) : c = [] := List.eq_nil_of_length_eq_zero (by have := h.len; simp only [List.length_nil] at this; omega)
theorem OpsNone_holds (x : GNode) (a b : List GItem) (_ : Dat.ok x) (_ : Dat.ok a) (_ : Dat.ok b) : f_backwashlaw11_OpsNone x a b = some true := by
  refine Ok.eq ?_
  unfold f_backwashlaw11_OpsNone
  refine Ok.bind (Ok.of_eq awake_ok (Ok.iteB (fun h => by cases h) (fun _ => ?_)))
  refine Ok.bind2 (short_ok (by simp)) fun s hs => Ok.iteB (fun _ => Ok.some rfl) (fun hx => ?_)
  have hs' := hs (by simpa using hx)
  have la : a.length ≤ 60 := hs' a (by simp)
  have lb : b.length ≤ 60 := hs' b (by simp)
  have p0 : f_ops_Apply_1 0 [a, b] = some (there a) := port_ok (ports := [a, b]) 0 (by intro l hl; have := hs' l hl; omega)
  have p1 : f_ops_Apply_1 1 [a, b] = some (there b) := port_ok (ports := [a, b]) 1 (by intro l hl; have := hs' l hl; omega)
  have ta := there_len a
  have tb := there_len b
  have q0 : f_ops_Apply_1 0 [there a, there b] = some (there a) := by
    have := port_ok (ports := [there a, there b]) 0 (by intro l hl; simp at hl; rcases hl with rfl | rfl <;> omega)
    refine Eq.trans this ?_; show some (there (there a)) = _; rw [there_there]
  have q1 : f_ops_Apply_1 1 [there a, there b] = some (there b) := by
    have := port_ok (ports := [there a, there b]) 1 (by intro l hl; simp at hl; rcases hl with rfl | rfl <;> omega)
    refine Eq.trans this ?_; show some (there (there b)) = _; rw [there_there]
  have heq : f_ops_Apply x [there a, there b] = f_ops_Apply x [a, b] := by
    unfold f_ops_Apply
    rw [q0, q1, p0, p1]
  obtain ⟨c, hc, O, hO, pO, hF⟩ := Apply_ok (x := x) p0 p1 (good_there (by omega)) (good_there (by omega))
  have n0 : f_ops_Apply_1 0 [] = some [] := rfl
  have n1 : f_ops_Apply_1 1 [] = some [] := rfl
  obtain ⟨d, hd, O2, hO2, _, hF2⟩ := Apply_ok (x := x) n0 n1 good_nil good_nil
  obtain rfl := Out_nil hO2
  have hd1 : d.2 = true ∧ d.1 = [] := by
    rcases hF2 with ⟨h1, h2, _⟩ | ⟨_, _, h⟩
    · exact ⟨h1, nil_of_puts h2⟩
    · simp [tot] at h
  have hc1 : Rt c.1 ∧ Pos c.1 ∧ tot c.1 ≤ 65536 := by
    rcases hF with ⟨h1, h2, h3⟩ | ⟨_, h, _⟩
    · refine ⟨h2.rt, Puts.pos h2 pO, ?_⟩
      have := h2.tot
      simp only [tot, List.map_nil, List.sum_nil] at this h3 ⊢
      omega
    · rw [h]; exact ⟨Rt.nil, by simp [Pos], by simp [tot]⟩
  have hcl : c.1.length ≤ 65536 := by have := hc1.2.1.tot_nonneg; omega
  refine Ok.bind (Ok.of_eq hc (Ok.bind (Ok.of_eq hd (Ok.bind (Ok.of_eq (There_ok (by omega)) (Ok.bind (Ok.of_eq (There_ok (by omega)) ?_)))))))
  rw [heq]
  refine Ok.bind (Ok.of_eq hc ?_)
  refine Ok.loop0 (fun s => ∃ i : Nat, s.2 = (i : Int) ∧ i ≤ c.1.length ∧ s.1 = tot (c.1.take i)) (fun s => c.1.length - s.2.toNat) ?_ ⟨0, rfl, Nat.zero_le _, rfl⟩ (by simp only [rounds]; omega)
  rintro rec ⟨n, _⟩ ⟨i, rfl, hi, hn⟩ hr
  simp only at hn
  unfold f_backwashlaw11_OpsNone_B2
  simp only
  refine Ok.iteB (fun hc2 => ?_) (fun hc2 => ?_)
  · simp only [decide_eq_true_eq] at hc2
    have hlt : i < c.1.length := by omega
    have hsp : tot (c.1.take (i + 1)) = tot (c.1.take i) + c.1[i].N := by rw [List.take_succ_eq_append_getElem hlt, tot_append]; simp [tot]
    have hle : tot (c.1.take (i + 1)) ≤ tot c.1 := by
      have h1 := tot_append (c.1.take (i + 1)) (c.1.drop (i + 1))
      rw [List.take_append_drop] at h1
      have h2 : 0 ≤ tot (c.1.drop (i + 1)) := by
        have := Pos.tot_nonneg (l := c.1.drop (i + 1)) fun y hy => hc1.2.1 y (List.mem_of_mem_drop hy)
        omega
      omega
    have h0 : 0 ≤ tot (c.1.take i) := by
      have := Pos.tot_nonneg (l := c.1.take i) fun y hy => hc1.2.1 y (List.mem_of_mem_take hy)
      omega
    have hcp := hc1.2.1 _ (List.getElem_mem hlt)
    refine Ok.bind (Ok.idxN hlt ?_)
    rw [wrap_i64 ((i : Int) + 1) (by omega), wrap_i64 (n + c.1[i].N) (by omega)]
    exact hr _ ⟨i + 1, rfl, by omega, by simp only; rw [hsp, hn]⟩ (by simp only; omega)
  · simp only [decide_eq_false_iff_not] at hc2
    have : i = c.1.length := by omega
    rw [this, List.take_length] at hn
    unfold f_backwashlaw11_OpsNone_J1
    rw [hd1.1, hd1.2]
    refine Ok.iteB (fun _ => Ok.bind (Ok.of_eq (Same_refl (by omega)) (Ok.iteB (fun _ => ?_) (fun hx => by cases hx)))) (fun hx => by simp at hx)
    refine Ok.bind (Ok.of_eq (Right_rt hc1.1 (by omega)) (Ok.iteB (fun _ => ?_) (fun hx => by cases hx)))
    refine Ok.bind (Ok.of_eq (There_ok (by omega)) ?_)
    rw [there_pos hc1.1 hc1.2.1]
    refine Ok.bind (Ok.of_eq (Same_refl (by omega)) (Ok.some ?_))
    have : n ≤ 65536 := by omega
    simp [this]
end OP
end Go.Proofs.Ythpahhhdapdcpaa

