/-
  The law in plain words: what its plain function gives is true. No condition beyond those that each theorem names.
-/
import Derived.Test.YtngeldeahafcfaaP08a
import Derived.Test.YtngeldeahafcfaaWalk0
set_option linter.unusedSimpArgs false
set_option linter.unusedVariables false
namespace Go.Proofs.Ytngeldeahafcfaa
open Go Go.RowKit
set_option linter.unusedSimpArgs false
set_option linter.unusedVariables false
/-! The program's reader. -/
def StR (s : GGraph_reader) (b : List UInt8) : Prop := s = ⟨b, 0⟩ ∧ b.length ≤ 9000
def ErR (s : GGraph_reader) (e : Int) : Prop := s.e = e ∧ e ≠ 0
abbrev GotR {α : Type} (x : Except Int (α × List UInt8)) (r : α × GGraph_reader) : Prop := Got StR ErR x r
theorem takeAll {α : Type} (b : List α) : List.take b.length b = b := List.take_length
theorem uintR_ok {s b} (h : StR s b) : f_graph_reader_uint s = some (((readU b 0 0).1 : Int), (⟨b.drop (readU b 0 0).2.1, ((readU b 0 0).2.2 : Int)⟩ : GGraph_reader)) := by
  obtain ⟨rfl, hl⟩ := h
  unfold f_graph_reader_uint
  have hs := (readU_size b 0 0).1
  rw [if_neg (by simp)]
  simp only [ReadUint_eq b (by omega), bindO, Option.bind_some, tupU, takeAll, Int.toNat_natCast]
  unfold guardO
  rw [if_pos (by omega)]
theorem uintR_er {s e} (h : ErR s e) : f_graph_reader_uint s = some (0, s) := by
  unfold f_graph_reader_uint
  rw [if_pos (by simp [h.1, h.2])]
theorem intR_er {s e} (h : ErR s e) : f_graph_reader_int s = some (0, s) := by
  unfold f_graph_reader_int
  rw [if_pos (by simp [h.1, h.2])]
theorem drop_le {b : List UInt8} {n : Nat} (h : b.length ≤ 9000) : (b.drop n).length ≤ 9000 := by rw [List.length_drop]; omega
theorem intR_ok {s b} (h : StR s b) : Ok (f_graph_reader_int s) (GotR (sgnP b)) := by
  obtain ⟨rfl, hl⟩ := h
  unfold f_graph_reader_int
  have hs := readU_size b 0 0
  rw [if_neg (by simp)]
  simp only [ReadInt_eq b (by omega), bindO, Option.bind_some, tupI, takeAll, Int.toNat_natCast]
  refine Ok.guard (by omega) (Ok.some ?_)
  unfold sgnP GotR Got
  by_cases h : (readU b 0 0).2.2 ≠ 0
  · simp only [if_pos h]
    exact ⟨rfl, by omega⟩
  · simp only [if_neg h]
    refine ⟨trivial, ?_, drop_le hl⟩
    have : (readU b 0 0).2.2 = 0 := by omega
    rw [this]; rfl
theorem smallR_ok {s b} (h : StR s b) : Ok (f_graph_reader_small s) (GotR (numP 0 2147483647 2 b)) := by
  have hs := readU_size b 0 0
  unfold f_graph_reader_small
  rw [uintR_ok h]
  simp only [bindO, Option.bind_some]
  unfold numP GotR Got
  by_cases he : (readU b 0 0).2.2 ≠ 0
  · have h0 := hs.2.1 he
    rw [if_neg (by rw [h0.1]; simp)]
    simp only [if_pos he]
    exact Ok.some ⟨rfl, by omega⟩
  · simp only [if_neg he]
    have he0 : (readU b 0 0).2.2 = 0 := by omega
    by_cases hn : 2147483647 < (readU b 0 0).1
    · rw [if_pos (by simp; omega), if_pos (by omega)]
      unfold f_graph_reader_fail
      rw [he0, if_pos (by simp)]
      exact Ok.some ⟨rfl, by decide⟩
    · rw [if_neg (by simp; omega), if_neg (by omega)]
      refine Ok.some ⟨by simp only; rw [wrap_i64 _ (by omega)], ?_, drop_le h.2⟩
      rw [he0]; rfl
theorem smallR_er {s e} (h : ErR s e) : f_graph_reader_small s = some (0, s) := by
  unfold f_graph_reader_small
  rw [uintR_er h]; rfl
theorem countR_ok {s b} (lo hi : Nat) (hlo : lo ≤ 100) (hhi : hi ≤ 100) (h : StR s b) : Ok (f_graph_reader_count s lo hi) (GotR (numP lo hi 11 b)) := by
  have hs := readU_size b 0 0
  unfold f_graph_reader_count
  rw [uintR_ok h, wrap_u64_in _ (by omega), wrap_u64_in _ (by omega)]
  simp only [bindO, Option.bind_some]
  unfold numP GotR Got
  by_cases he : (readU b 0 0).2.2 ≠ 0
  · have h0 := hs.2.1 he
    rw [if_neg (by simp; omega)]
    unfold f_graph_reader_count_J1
    rw [if_pos (by simp; omega)]
    simp only [if_pos he]
    exact Ok.some ⟨rfl, by omega⟩
  · simp only [if_neg he]
    have he0 : (readU b 0 0).2.2 = 0 := by omega
    by_cases hn : (readU b 0 0).1 < lo ∨ hi < (readU b 0 0).1
    · rw [if_pos (by simp; omega), if_pos hn]
      unfold f_graph_reader_fail
      rw [he0, if_pos (by simp)]
      simp only [Option.bind_some]
      unfold f_graph_reader_count_J1
      rw [if_pos (by simp)]
      exact Ok.some ⟨rfl, by decide⟩
    · rw [if_neg (by simp; omega), if_neg hn]
      unfold f_graph_reader_count_J1
      rw [if_neg (by simp; omega)]
      refine Ok.some ⟨by simp only; rw [wrap_i64 _ (by omega)], ?_, drop_le h.2⟩
      rw [he0]; rfl
theorem countR_er {s e} (lo hi : Int) (h : ErR s e) : f_graph_reader_count s lo hi = some (0, s) := by
  unfold f_graph_reader_count
  rw [uintR_er h]
  simp only [bindO, Option.bind_some]
  rw [if_neg (by simp [h.1, h.2])]
  unfold f_graph_reader_count_J1
  rw [if_pos (by simp [h.1, h.2])]
/-- One after the other. -/
theorem Got_bind {α R : Type} {p : Pa α} {b : List UInt8} {x : Option (α × GGraph_reader)} {k : α × GGraph_reader → Option R} {Q : R → Prop} (hx : Ok x (GotR (p b)))
    (h1 : ∀ a b' s, p b = .ok (a, b') → StR s b' → Ok (k (a, s)) Q) (h2 : ∀ e a s, p b = .error e → ErR s e → Ok (k (a, s)) Q) : Ok (bindO x k) Q := by
  refine Ok.bind2 hx fun r hr => ?_
  cases hp : p b with
  | ok v =>
    obtain ⟨a, b'⟩ := v
    rw [hp] at hr
    obtain ⟨rfl, hs⟩ := hr
    exact h1 r.1 b' r.2 hp hs
  | error e =>
    rw [hp] at hr
    exact h2 e r.1 r.2 hp hr
theorem insR_item {R : Type} : Item StR ErR insP (fun (s : GGraph_reader) (k : GIns × GGraph_reader → Option R) => bindO (f_graph_reader_small s) (fun (v_8 : Int × GGraph_reader) => bindO (f_graph_reader_int v_8.2) (fun (v_9 : Int × GGraph_reader) => k (⟨v_8.1, v_9.1⟩, v_9.2)))) := by
  intro s b k Q hs hk
  show Ok (bindO _ _) Q
  refine Got_bind (smallR_ok hs) (fun a b1 s1 h1 hs1 => ?_) (fun e a s1 h1 he => ?_)
  · refine Got_bind (intR_ok hs1) (fun a2 b2 s2 h2 hs2 => hk _ ?_) (fun e a2 s2 h2 he => hk _ ?_)
    · simp only [insP, bindP, h1, h2, retP, Got]; exact ⟨trivial, hs2⟩
    · simp only [insP, bindP, h1, h2, Got]; exact he
  · simp only [intR_er he, bindO, Option.bind_some]
    refine hk _ ?_
    simp only [insP, bindP, h1, Got]; exact he
theorem nodeR_tail {a1 a2 a3 : Int × GGraph_reader} {s : GGraph_reader} {e n : Int} (he : ErR s e) : Ok (loopK (f_graph_reader_node_B1 a1 a2 a3) rounds (n, s, [])) (fun r => ErR r.2 e) :=
  loop_out (ok := fun s => s.e == 0) (D := fun n => decide (0 < n)) (fun rec n s a => rfl) (by simp [he.1, he.2]) ⟨_, rfl, he⟩
theorem nodeR_er {s e} (he : ErR s e) : Ok (f_graph_reader_node s) (fun r => ErR r.2 e) := by
  unfold f_graph_reader_node
  simp only [smallR_er he, intR_er he, countR_er _ _ he, bindO, Option.bind_some]
  exact nodeR_tail he
theorem nodeR_ok {s b} (h : StR s b) : Ok (f_graph_reader_node s) (GotR (nodeP b)) := by
  unfold f_graph_reader_node
  refine Got_bind (smallR_ok h) (fun a1 b1 s1 h1 hs1 => ?_) (fun e a s1 h1 he => ?_)
  · refine Got_bind (smallR_ok hs1) (fun a2 b2 s2 h2 hs2 => ?_) (fun e a s2 h2 he => ?_)
    · refine Got_bind (intR_ok hs2) (fun a3 b3 s3 h3 hs3 => ?_) (fun e a s3 h3 he => ?_)
      · refine Got_bind (countR_ok 0 64 (by omega) (by omega) hs3) (fun a4 b4 s4 h4 hs4 => ?_) (fun e a s4 h4 he => ?_)
        · have hb := numP_bound h4
          have ha4 : a4 = ((a4.toNat : Nat) : Int) := by omega
          simp only
          rw [ha4]
          refine loop_dn StR ErR insP (fun s => s.e == 0) 16 _ (fun s l => some (⟨a1, a2, a3, l⟩, s)) _ _ (fun rec n s a => rfl) (fun s b hs => by rw [hs.1]; rfl) (fun s e he => by simp [he.1, he.2]) (by omega) insR_item a4.toNat rounds s4 b4 []
            (by simp only [rounds]; omega) (by simp; omega) hs4 (fun xs b' s' hx hs' => Ok.some ?_) (fun e s' a' hx he => Ok.some ?_)
          · simp only [nodeP, bindP, h1, h2, h3, h4, hx, retP, Got, List.nil_append]; exact ⟨trivial, hs'⟩
          · simp only [nodeP, bindP, h1, h2, h3, h4, hx, Got]; exact he
        · simp only [nodeP, bindP, h1, h2, h3, h4, Got]
          exact nodeR_tail he
      · simp only [nodeP, bindP, h1, h2, h3, Got, smallR_er he, intR_er he, countR_er _ _ he, bindO, Option.bind_some]
        exact nodeR_tail he
    · simp only [nodeP, bindP, h1, h2, Got, smallR_er he, intR_er he, countR_er _ _ he, bindO, Option.bind_some]
      exact nodeR_tail he
  · simp only [nodeP, bindP, h1, Got, smallR_er he, intR_er he, countR_er _ _ he, bindO, Option.bind_some]
    exact nodeR_tail he
theorem edgeR_er {s e} (he : ErR s e) : Ok (f_graph_reader_edge s) (fun r => ErR r.2 e) := by
  unfold f_graph_reader_edge
  simp only [smallR_er he, uintR_er he, bindO, Option.bind_some]
  exact Ok.some he
theorem edgeR_ok {s b} (h : StR s b) : Ok (f_graph_reader_edge s) (GotR (edgeP b)) := by
  unfold f_graph_reader_edge
  refine Got_bind (smallR_ok h) (fun a1 b1 s1 h1 hs1 => ?_) (fun e a s1 h1 he => ?_)
  · refine Got_bind (smallR_ok hs1) (fun a2 b2 s2 h2 hs2 => ?_) (fun e a s2 h2 he => ?_)
    · refine Got_bind (smallR_ok hs2) (fun a3 b3 s3 h3 hs3 => ?_) (fun e a s3 h3 he => ?_)
      · have hs := readU_size b3 0 0
        rw [uintR_ok hs3]
        simp only [bindO, Option.bind_some]
        simp only [edgeP, bindP, h1, h2, h3]
        unfold numP
        by_cases he : (readU b3 0 0).2.2 ≠ 0
        · have h0 := hs.2.1 he
          rw [if_neg (by rw [h0.1]; simp)]
          simp only [if_pos he, Got]
          exact Ok.some ⟨rfl, by omega⟩
        · simp only [if_neg he]
          have he0 : (readU b3 0 0).2.2 = 0 := by omega
          by_cases hn : 1 < (readU b3 0 0).1
          · rw [if_pos (by simp; omega), if_pos (by omega)]
            unfold f_graph_reader_fail
            rw [he0, if_pos (by simp)]
            exact Ok.some ⟨rfl, by decide⟩
          · rw [if_neg (by simp; omega), if_neg (by omega)]
            simp only [retP, Got]
            refine Ok.some ⟨rfl, ?_, drop_le hs3.2⟩
            rw [he0]; rfl
      · simp only [edgeP, bindP, h1, h2, h3, Got, smallR_er he, uintR_er he, bindO, Option.bind_some]
        exact Ok.some he
    · simp only [edgeP, bindP, h1, h2, Got, smallR_er he, uintR_er he, bindO, Option.bind_some]
      exact Ok.some he
  · simp only [edgeP, bindP, h1, Got, smallR_er he, uintR_er he, bindO, Option.bind_some]
    exact Ok.some he
/-- The end of it. -/
def finR (x : Except Int (GGraph × List UInt8)) : GGraph × Int := match x with
  | .error e => (noG, e)
  | .ok (g, r) => if r = [] then (g, 0) else (noG, 4)
theorem bodyG_eq (b : List UInt8) : bodyG b = finR (graphP b) := rfl
theorem J4_er {a4 a5 a8 a11 s e} (he : ErR s e) : f_graph_Read_J4 a4 a5 a8 a11 s = some (noG, e) := by
  unfold f_graph_Read_J4
  rw [if_pos (by simp [he.1, he.2]), he.1]; rfl
theorem J3_er {a4 a5 a8 a11 s e} (he : ErR s e) : f_graph_Read_J3 a4 a5 a8 s a11 = some (noG, e) := by
  refine Ok.eq ?_
  unfold f_graph_Read_J3
  refine Ok.iteB (fun _ => ?_) (fun _ => ?_)
  · unfold f_graph_reader_fail
    rw [if_neg (by simp [he.1, he.2])]
    exact Ok.of_eq (J4_er he) rfl
  · exact Ok.of_eq (J4_er he) rfl
theorem J3_ok {a4 a5 a8 a11 s b} (hs : StR s b) : f_graph_Read_J3 a4 a5 a8 s a11 = some (finR (.ok (⟨a4, a5, a8, a11⟩, b))) := by
  obtain ⟨rfl, _⟩ := hs
  refine Ok.eq ?_
  unfold f_graph_Read_J3
  refine Ok.iteB (fun hc => ?_) (fun hc => ?_)
  · simp only [decide_eq_true_eq] at hc
    unfold f_graph_reader_fail
    rw [if_pos (by simp)]
    show Ok (f_graph_Read_J4 a4 a5 a8 a11 ⟨b, 4⟩) _
    have : b ≠ [] := fun h => by subst h; simp at hc
    refine Ok.of_eq (J4_er (s := ⟨b, 4⟩) (e := 4) ⟨rfl, by decide⟩) ?_
    simp only [finR, if_neg this]
  · simp only [decide_eq_false_iff_not] at hc
    have : b = [] := List.eq_nil_of_length_eq_zero (by omega)
    unfold f_graph_Read_J4
    rw [if_neg (by simp)]
    refine Ok.some ?_
    simp only [finR, if_pos this]
theorem edge_item {R : Type} : Item StR ErR edgeP (fun (s : GGraph_reader) (k : GEdge × GGraph_reader → Option R) => bindO (f_graph_reader_edge s) k) := by
  intro s b k Q hs hk
  exact Ok.bind2 (edgeR_ok hs) hk
theorem node_item {R : Type} : Item StR ErR nodeP (fun (s : GGraph_reader) (k : GNode × GGraph_reader → Option R) => bindO (f_graph_reader_node s) k) := by
  intro s b k Q hs hk
  exact Ok.bind2 (nodeR_ok hs) hk
theorem okR_st : ∀ (s : GGraph_reader) b, StR s b → (s.e == 0) = true := fun s b hs => by rw [hs.1]; rfl
theorem okR_er : ∀ (s : GGraph_reader) e, ErR s e → (s.e == 0) = false := fun s e he => by simp [he.1, he.2]
theorem B5_er {a4 a5 a8 n s e} (he : ErR s e) : Ok (loopK (f_graph_Read_B5 a4 a5 a8) rounds (n, s, [])) (fun r => r = (noG, e)) :=
  loop_out (ok := fun s => s.e == 0) (D := fun n => decide (0 < n)) (fun rec n s a => rfl) (okR_er _ _ he) (Ok.of_eq (J3_er he) rfl)
theorem J2_er {a4 a5 a8 s e} (he : ErR s e) : Ok (f_graph_Read_J2 a4 a5 s a8) (fun r => r = (noG, e)) := by
  unfold f_graph_Read_J2
  rw [countR_er _ _ he]
  exact Ok.bind (Ok.some (B5_er he))
theorem B6_er {a4 a5 n s e} (he : ErR s e) : Ok (loopK (f_graph_Read_B6 a4 a5) rounds (n, s, [])) (fun r => r = (noG, e)) :=
  loop_out (ok := fun s => s.e == 0) (D := fun n => decide (0 < n)) (fun rec n s a => rfl) (okR_er _ _ he) (J2_er he)
theorem J1_er {a4 a5 s e} (he : ErR s e) : Ok (f_graph_Read_J1 s a4 a5) (fun r => r = (noG, e)) := by
  unfold f_graph_Read_J1
  rw [countR_er _ _ he]
  exact Ok.bind (Ok.some (B6_er he))
theorem natOf {a : Int} {lo hi : Nat} (h : (lo : Int) ≤ a ∧ a ≤ hi) : a = ((a.toNat : Nat) : Int) := by omega
theorem J2_ok {a4 a5 a8 s b} (hs : StR s b) : Ok (f_graph_Read_J2 a4 a5 s a8) (fun r => r = finR (bindP (numP 0 64 11) (fun m => bindP (repP' edgeP m.toNat) fun es => retP ⟨a4, a5, a8, es⟩) b)) := by
  unfold f_graph_Read_J2
  refine Got_bind (countR_ok 0 64 (by omega) (by omega) hs) (fun a1 b1 s1 h1 hs1 => ?_) (fun e a s1 h1 he => ?_)
  · have hb := numP_bound h1
    simp only
    rw [natOf hb]
    refine loop_dn StR ErR edgeP (fun s => s.e == 0) 32 (fun s k => bindO (f_graph_reader_edge s) k) (fun s l => f_graph_Read_J3 a4 a5 a8 s l) _ _ (fun rec n s a => rfl) okR_st okR_er (by omega) edge_item a1.toNat rounds s1 b1 []
      (by simp only [rounds]; omega) (by simp; omega) hs1 (fun xs b' s' hx hs' => ?_) (fun e s' a' hx he => ?_)
    · simp only [bindP, h1, hx, retP, List.nil_append]
      exact Ok.of_eq (J3_ok hs') rfl
    · simp only [bindP, h1, hx]
      exact Ok.of_eq (J3_er he) rfl
  · simp only [bindP, h1]
    exact B5_er he
theorem J1_ok {a4 a5 s b} (hs : StR s b) : Ok (f_graph_Read_J1 s a4 a5) (fun r => r = finR (bindP (numP 0 32 11) (fun k => bindP (repP' nodeP k.toNat) fun ns => bindP (numP 0 64 11) fun m => bindP (repP' edgeP m.toNat) fun es => retP ⟨a4, a5, ns, es⟩) b)) := by
  unfold f_graph_Read_J1
  refine Got_bind (countR_ok 0 32 (by omega) (by omega) hs) (fun a1 b1 s1 h1 hs1 => ?_) (fun e a s1 h1 he => ?_)
  · have hb := numP_bound h1
    simp only
    rw [natOf hb]
    refine loop_dn StR ErR nodeP (fun s => s.e == 0) 48 (fun s k => bindO (f_graph_reader_node s) k) (fun s l => f_graph_Read_J2 a4 a5 s l) _ _ (fun rec n s a => rfl) okR_st okR_er (by omega) node_item a1.toNat rounds s1 b1 []
      (by simp only [rounds]; omega) (by simp; omega) hs1 (fun xs b' s' hx hs' => ?_) (fun e s' a' hx he => ?_)
    · refine (J2_ok hs').mono fun r hr => ?_
      subst hr
      simp only [bindP, h1, hx, List.nil_append]
    · simp only [bindP, h1, hx]
      exact J2_er he
  · simp only [bindP, h1]
    exact B6_er he
/-- The scopes: two rows side by side. -/
theorem scopes_ok {Q : GGraph × Int → Prop} : ∀ (n m : Nat) (s : GGraph_reader) (b : List UInt8) (ps bs : List Int), n < m → ps.length + n ≤ 1000 → bs.length + n ≤ 1000 → StR s b →
    (∀ xs b' s', repP' scopeP n b = .ok (xs, b') → StR s' b' → Ok (f_graph_Read_J1 s' (ps ++ xs.map (·.1)) (bs ++ xs.map (·.2))) Q) →
    (∀ e s' p' q', repP' scopeP n b = .error e → ErR s' e → Ok (f_graph_Read_J1 s' p' q') Q) → Ok (loopK f_graph_Read_B7 m ((n : Int) + 1, s, ps, bs)) Q
  | n, 0, s, b, ps, bs, hn, _, _, _, _, _ => absurd hn (Nat.not_lt_zero _)
  | 0, m + 1, s, b, ps, bs, hn, hp, hq, hs, h1, h2 => by
    unfold loopK f_graph_Read_B7
    simp only
    rw [if_neg (by simp)]
    have := h1 [] b s rfl hs
    simpa using this
  | n + 1, m + 1, s, b, ps, bs, hn, hp, hq, hs, h1, h2 => by
    unfold loopK f_graph_Read_B7
    simp only
    rw [if_pos (by rw [okR_st s b hs]; simp; omega)]
    have hw : IntKind.i64.wrap (((n + 1 : Nat) : Int) + 1 - 1) = (n : Int) + 1 := by rw [wrap_i64 _ (by omega)]; omega
    rw [hw]
    obtain ⟨m', rfl⟩ : ∃ m', m = m' + 1 := ⟨m - 1, by omega⟩
    have er : ∀ e s' p' q', repP' scopeP (n + 1) b = .error e → ErR s' e → Ok (loopK f_graph_Read_B7 (m' + 1) ((n : Int) + 1, s', p', q')) Q := fun e s' p' q' hx he => by
      unfold loopK f_graph_Read_B7
      simp only
      rw [if_neg (by rw [okR_er _ _ he]; simp)]
      exact h2 e s' p' q' hx he
    refine Got_bind (smallR_ok hs) (fun a1 b1 s1 g1 hs1 => ?_) (fun e a s1 g1 he => ?_)
    · refine Ok.guard (by simp; omega) ?_
      refine Got_bind (smallR_ok hs1) (fun a2 b2 s2 g2 hs2 => ?_) (fun e a s2 g2 he => ?_)
      · refine Ok.guard (by simp; omega) ?_
        have hsc : scopeP b = .ok ((a1, a2), b2) := by simp only [scopeP, bindP, g1, g2, retP]
        refine scopes_ok n (m' + 1) s2 b2 _ _ (by omega) (by simp; omega) (by simp; omega) hs2 (fun xs b' s' hx hs' => ?_) (fun e s' p' q' hx he => ?_)
        · have := h1 ((a1, a2) :: xs) b' s' (by rw [repP'_succ, hsc]; simp only [hx]) hs'
          simpa using this
        · exact h2 e s' p' q' (by rw [repP'_succ, hsc]; simp only [hx]) he
      · refine Ok.guard (by simp; omega) ?_
        exact er e s2 _ _ (by rw [repP'_succ]; simp only [scopeP, bindP, g1, g2]) he
    · refine Ok.guard (by simp; omega) ?_
      rw [smallR_er he]
      refine Ok.guard (by simp; omega) ?_
      exact er e s1 _ _ (by rw [repP'_succ]; simp only [scopeP, bindP, g1]) he
def headG : List UInt8 → Int
  | [] => 3
  | [x] => if x = 66 then 3 else 4
  | [x, y] => if x = 66 ∧ y = 87 then 3 else 4
  | x :: y :: z :: _ => if x = 66 ∧ y = 87 ∧ z = 49 then 0 else 4
theorem begins_eq (b : List UInt8) (hb : b.length ≤ 9000) : f_graph_begins b = some (if 8192 < b.length then 11 else headG b) := by
  refine Ok.eq ?_
  unfold f_graph_begins
  refine Ok.iteB (fun hc => Ok.some ?_) (fun hc => ?_)
  · simp only [decide_eq_true_eq] at hc
    rw [if_pos (by omega)]
  · simp only [decide_eq_false_iff_not] at hc
    have h8 : ¬ 8192 < b.length := by omega
    refine Ok.guard (by omega) (Ok.guard (by simp; omega) ?_)
    simp only [if_neg h8]
    clear hb hc h8
    match b with
    | [] => exact Ok.some rfl
    | [x] =>
      have hm : min (([x].length : Nat) : Int) 3 = 1 := rfl
      rw [hm]
      by_cases h : x = 66
      · subst h; exact ⟨_, rfl, rfl⟩
      · rw [if_pos (by simp [h])]; exact Ok.some (by simp only [headG, if_neg h])
    | [x, y] =>
      have hm : min (([x, y].length : Nat) : Int) 3 = 2 := rfl
      rw [hm]
      by_cases h : x = 66 ∧ y = 87
      · obtain ⟨rfl, rfl⟩ := h; exact ⟨_, rfl, rfl⟩
      · rw [if_pos (by have h' := h; simp only [Classical.not_and_iff_not_or_not] at h'; simp; exact h')]; exact Ok.some (by simp only [headG, if_neg h])
    | x :: y :: z :: r =>
      have hm : min (((x :: y :: z :: r).length : Nat) : Int) 3 = 3 := by simp only [List.length_cons]; omega
      rw [hm]
      by_cases h : x = 66 ∧ y = 87 ∧ z = 49
      · obtain ⟨rfl, rfl, rfl⟩ := h
        refine ⟨0, rfl, rfl⟩
      · rw [if_pos (by have h' := h; simp only [Classical.not_and_iff_not_or_not] at h'; simp; exact h')]; exact Ok.some (by simp only [headG, if_neg h])
theorem Read_eq (b : List UInt8) (hb : b.length ≤ 9000) : f_graph_Read b = some (readG b) := by
  refine Ok.eq ?_
  unfold f_graph_Read
  rw [begins_eq b hb]
  unfold readG
  by_cases h8 : 8192 < b.length
  · simp only [if_pos h8]; exact Ok.some rfl
  simp only [if_neg h8]
  unfold headG
  match b with
  | [] => exact Ok.some rfl
  | [x] =>
    by_cases h : x = 66
    · simp only [if_pos h]; exact Ok.some rfl
    · simp only [if_neg h]; exact Ok.some rfl
  | [x, y] =>
    by_cases h : x = 66 ∧ y = 87
    · simp only [if_pos h]; exact Ok.some rfl
    · simp only [if_neg h]; exact Ok.some rfl
  | x :: y :: z :: r =>
    by_cases h : x = 66 ∧ y = 87 ∧ z = 49
    · simp only [if_pos h]
      simp only [List.length_cons] at hb h8
      refine Ok.bind (Ok.of_eq rfl ?_)
      rw [if_neg (by simp)]
      refine Ok.guard (by simp only [List.length_cons]; omega) ?_
      rw [takeAll]
      have hs : StR (⟨List.drop (Int.toNat 3) (x :: y :: z :: r), 0⟩ : GGraph_reader) r := ⟨rfl, by omega⟩
      refine Got_bind (countR_ok 1 8 (by omega) (by omega) hs) (fun a1 b1 s1 h1 hs1 => ?_) (fun e a s1 h1 he => ?_)
      · have hb1 := numP_bound h1
        have ha : a1 = ((a1.toNat - 1 : Nat) : Int) + 1 := by omega
        simp only
        rw [show (a1, s1, [-1], [0]) = ((((a1.toNat - 1 : Nat) : Int) + 1, s1, [-1], [0]) : Int × GGraph_reader × List Int × List Int) by rw [← ha]]
        refine scopes_ok (a1.toNat - 1) rounds s1 b1 [-1] [0] (by simp only [rounds]; omega) (by simp; omega) (by simp; omega) hs1 (fun xs b' s' hx hs' => ?_) (fun e s' p' q' hx he => ?_)
        · refine (J1_ok hs').mono fun r' hr => ?_
          subst hr
          rw [bodyG_eq]
          simp only [graphP, bindP, h1, hx, List.singleton_append]
        · rw [bodyG_eq]
          simp only [graphP, bindP, h1, hx]
          exact J1_er he
      · rw [bodyG_eq]
        simp only [graphP, bindP, h1]
        show Ok (f_graph_Read_B7 (loopK _ 18446744073709551615) (a, s1, [-1], [0])) _
        unfold f_graph_Read_B7
        simp only
        rw [if_neg (by rw [okR_er _ _ he]; simp)]
        exact J1_er he
    · simp only [if_neg h]; exact Ok.some rfl
end Go.Proofs.Ytngeldeahafcfaa

