/-
  The law in plain words: what its plain function gives is true. No condition beyond those that each theorem names.
-/
import Derived.Test.YthpahhhdapdcpaaP18g
set_option linter.unusedSimpArgs false
set_option linter.unusedVariables false
namespace Go.Proofs.Ythpahhhdapdcpaa
open Go Go.RowKit BG TS
namespace CE
/-! The statement CellSettles: what holds of the cell, and of what came and was sent, at each act. -/
structure SmallK (K : Nat) (l : List GItem) : Prop where
  len : l.length ≤ K
  big : BG.big l ≤ 128 * K
structure Inv (x : GNode) (K L : Nat) (c : List GSlot) (inn sent : List Came) : Prop where
  cl : Cl c
  len : c.length ≤ K
  small : ∀ s ∈ c, SmallK K s.In.a0 ∧ SmallK K s.In.a1
  fine : ∀ s ∈ c, Fine s.Sent
  dist : Dist inn
  innL : inn.length ≤ K
  in0 : ∀ t, at0 inn t = (look c t).In.a0
  in1 : ∀ t, at1 inn t = (look c t).In.a1
  cov : ∀ s ∈ c, has inn s.Time
  snt : ∀ t, at0 sent t = (look c t).Sent
  sntL : sent.length ≤ L
  sum : ∀ t z, Psum c t z = Qsum inn t z
  done : ∀ t ps, Rt ps → (∀ z, cnt ps z = Psum c t z) → ps.length ≤ 60000 → (look c t).Dirty = false → f_ops_Apply x [(look c t).In.a0, if x.Kind = 14 then ps else (look c t).In.a1] = some ((look c t).Sent, true)
theorem dflt_done {x : GNode} {ps : List GItem} {s : GSlot} (hl : ps.length ≤ 60000) (h : emp s = true) : f_ops_Apply x [s.In.a0, if x.Kind = 14 then ps else s.In.a1] = some (s.Sent, true) := by
  obtain ⟨h1, h2⟩ := (emp_iff s).1 h
  rw [h1, h2]
  by_cases hk : x.Kind = 14
  · rw [if_pos hk]; exact Apply_none (.inl hk) hl
  · rw [if_neg hk]; exact Apply_none (.inr rfl) (by simp)
theorem Inv.init (x : GNode) : Inv x 0 0 [] [] [] := by
  refine ⟨Cl.nil, by simp, by simp, by simp, List.Pairwise.nil, by simp, fun t => rfl, fun t => rfl, by simp, fun t => rfl, by simp, fun t z => rfl, fun t ps h1 h2 h3 h4 => ?_⟩
  exact dflt_done (s := dflt t) h3 rfl
theorem SmallK.up {K M : Nat} {l : List GItem} (h : SmallK K l) (hk : K ≤ M) : SmallK M l := ⟨by have := h.len; omega, by have := h.big; omega⟩
theorem Inv.up {x : GNode} {K L M N : Nat} {c : List GSlot} {inn sent : List Came} (h : Inv x K L c inn sent) (h1 : K ≤ M) (h2 : L ≤ N) : Inv x M N c inn sent :=
  ⟨h.cl, by have := h.len; omega, fun s hs => ⟨(h.small s hs).1.up h1, (h.small s hs).2.up h1⟩, h.fine, h.dist, by have := h.innL; omega, h.in0, h.in1, h.cov, h.snt, by have := h.sntL; omega, h.sum, h.done⟩
theorem Inv.sz {x : GNode} {K L : Nat} {c : List GSlot} {inn sent : List Came} (h : Inv x K L c inn sent) (hK : K ≤ 200) : Sz 65536 c :=
  ⟨by have := h.len; omega, fun s hs => ⟨by have := (h.small s hs).1.len; omega, by have := (h.small s hs).2.len; omega, (h.fine s hs).len⟩⟩
theorem Inv.sm {x : GNode} {K L : Nat} {c : List GSlot} {inn sent : List Came} (h : Inv x K L c inn sent) (hK : K ≤ 200) : ∀ s ∈ c, Small s.In.a0 :=
  fun s hs => ⟨(h.cl.good s hs).a0, by have := (h.small s hs).1.len; omega, by have := (h.small s hs).1.big; omega⟩
theorem Inv.past {x : GNode} {K L : Nat} {c : List GSlot} {inn sent : List Came} (h : Inv x K L c inn sent) (hK : K ≤ 200) (t : GTime) : ∃ ps, f_cell_past c t = some ps ∧ Rt ps ∧ (∀ z, cnt ps z = Psum c t z) ∧ ps.length ≤ 60000 := by
  obtain ⟨ps, h1, h2, h3, h4⟩ := past_ok (t := t) (h.sm hK) (by have := h.len; omega)
  exact ⟨ps, h1, h2, h3, h4⟩
theorem Inv.own {x : GNode} {K L : Nat} {c : List GSlot} {inn sent : List Came} (h : Inv x K L c inn sent) (t : GTime) : Rt (look c t).In.a0 ∧ Rt (look c t).In.a1 ∧ Fine (look c t).Sent ∧ SmallK K (look c t).In.a0 ∧ SmallK K (look c t).In.a1 := by
  rcases look_cases h.cl t with ⟨e, _⟩ | ⟨e, g⟩
  · rw [e]; exact ⟨Rt.nil, Rt.nil, Fine.nil, ⟨Nat.zero_le _, by simp [dflt, BG.big] <;> omega⟩, ⟨Nat.zero_le _, by simp [dflt, BG.big] <;> omega⟩⟩
  · exact ⟨g.a0, g.a1, h.fine _ e, (h.small _ e).1, (h.small _ e).2⟩
theorem mkE_in (kind : Int) (t : GTime) (s : GSlot) : (mkE kind t s).In = s.In ∧ (mkE kind t s).Sent = s.Sent ∧ (mkE kind t s).Time = s.Time := by
  unfold mkE mk
  split
  · exact ⟨rfl, rfl, rfl⟩
  · split <;> exact ⟨rfl, rfl, rfl⟩
theorem Psum_map (kind : Int) (t0 t : GTime) (z : GRec) : ∀ l : List GSlot, Psum (l.map (mk kind t0)) t z = Psum l t z
  | [] => rfl
  | s :: l => by
    have h := Psum_map kind t0 t z l
    simp only [List.map_cons, Psum, h, mk_time]
    have : (mk kind t0 s).In = s.In := by unfold mk; split <;> rfl
    rw [this]
theorem Psum_one (s : GSlot) (t : GTime) (z : GRec) : Psum (one s) t z = if le s.Time t then cnt s.In.a0 z else 0 := by
  unfold one
  split
  · rename_i h
    have := ((emp_iff s).1 h).1
    rw [this]; simp [Psum, cnt]
  · simp [Psum]
theorem Sp.psum {c A B : List GSlot} {t0 : GTime} {own : GSlot} (h : Sp c t0 A own B) (t : GTime) (z : GRec) : Psum c t z = Psum A t z + ((if le t0 t then cnt own.In.a0 z else 0) + Psum B t z) := by
  rcases h.at_ with ⟨e, e2⟩ | ⟨e, e2⟩
  · rw [e, Psum_append, e2]
    have : cnt (dflt t0).In.a0 z = 0 := rfl
    rw [this]; split <;> omega
  · rw [e, Psum_append]
    simp only [Psum, e2]
/-- A record has come. -/
theorem Inv.come {x : GNode} {K L : Nat} {c : List GSlot} {inn sent : List Came} (h : Inv x K L c inn sent) (hK : K < 100) {t : GTime} {p : Int} {r : GRec} {n : Int} (ht : ok t) (hp : p = 0 ∨ p = 1) (hn : -128 ≤ n ∧ n < 128) (hn0 : n ≠ 0) :
    ∃ c' b inn', f_cell_Come c x.Kind p t r n = some (c', b, true) ∧ f_backwashlaw15_more_s0_0 inn t p [⟨r, n⟩] = some inn' ∧ Inv x (K + 1) L c' inn' sent := by
  have hsz := h.sz (by omega)
  obtain ⟨v, hv, A, own, B, hsp, e⟩ := Come_ok (kind := x.Kind) (r := r) (port := p) h.cl hsz (by omega) ht (by omega) hn0 hp
  subst e
  have hown : own = look c t := hsp.look_.symm
  obtain ⟨w0, w1, wf, ws0, ws1⟩ := h.own t
  rw [← hown] at w0 w1 wf ws0 ws1
  have l0 := ws0.len
  have l1 := ws1.len
  have b0 := ws0.big
  have b1 := ws1.big
  have hone : Rt [(⟨r, n⟩ : GItem)] := ⟨by simp, fun y hy => by rw [List.mem_singleton] at hy; subst hy; exact ⟨hn0, by show -2147483648 ≤ n; omega, by show n ≤ 2147483648; omega⟩⟩
  have hbone : BG.big [(⟨r, n⟩ : GItem)] ≤ 128 := by simp only [BG.big]; omega
  -- the bag of that port, in both
  have key : ∀ o : List GItem, Rt o → o.length ≤ K → BG.big o ≤ 128 * K → f_bag_Plus o [⟨r, n⟩] = some (ad o r n) ∧ Rt (ad o r n) ∧ SmallK (K + 1) (ad o r n) := fun o ho hl hb => by
    obtain ⟨nb, h1, h2⟩ := Plus_ok ho hone (by omega) (by simp; omega)
    have hc := cnt_le o r
    obtain ⟨_, _, a3, a4, a5⟩ := ad_ok (r := r) (n := n) ho (by omega) (by omega) hn0
    have p5 := a5 (by omega)
    have : nb = ad o r n := Rt.unique h2.rt a3 fun z => by rw [h2.cnt, p5.cnt]; simp only [BG.cnt]; omega
    rw [← this]
    refine ⟨h1, h2.rt, by have := h2.len; simp at this; omega, by have := h2.big; omega⟩
  obtain ⟨k0a, k0b, k0c⟩ := key _ w0 l0 b0
  obtain ⟨k1a, k1b, k1c⟩ := key _ w1 l1 b1
  have hold0 : at0 inn t = own.In.a0 := by rw [h.in0, hown]
  have hold1 : at1 inn t = own.In.a1 := by rw [h.in1, hown]
  obtain ⟨nb, hnb, hplus⟩ : ∃ nb, nb = (if p = 0 then ad own.In.a0 r n else ad own.In.a1 r n) ∧ f_bag_Plus (atp p inn t) [⟨r, n⟩] = some nb := by
    refine ⟨_, rfl, ?_⟩
    unfold atp
    rcases hp with rfl | rfl
    · simp only [if_true]; rw [hold0]; exact k0a
    · rw [if_neg (by decide), if_neg (by decide), hold1]; exact k1a
  obtain ⟨inn', hi1, hi2⟩ := more_ok hp (by have := h.innL; omega) hplus
  refine ⟨_, _, inn', hv, hi1, ?_⟩
  have hcl' := comeL_cl (kind := x.Kind) (port := p) (r := r) (n := n) hsp h.cl hsz (by omega) ht (by omega) hn0
  have hlk := fun u => comeL_look (kind := x.Kind) (port := p) (r := r) (n := n) hsp h.cl u
  have hIn : ∀ u, (step x.Kind p t r n u (look c u)).In = if u = t then (upd p r n own).In else (look c u).In := fun u => by
    unfold step
    by_cases hu : u = t
    · rw [if_pos hu, if_pos hu, hu, ← hown]; exact (nz_in _).1
    · rw [if_neg hu, if_neg hu]; exact (mkE_in _ _ _).1
  have hSent : ∀ u, (step x.Kind p t r n u (look c u)).Sent = (look c u).Sent := fun u => by
    unfold step
    by_cases hu : u = t
    · rw [if_pos hu]; exact (nz_in _).2.1
    · rw [if_neg hu]; exact (mkE_in _ _ _).2.1
  have hu0 : (upd p r n own).In.a0 = if p = 0 then ad own.In.a0 r n else own.In.a0 := rfl
  have hu1 : (upd p r n own).In.a1 = if p = 0 then own.In.a1 else ad own.In.a1 r n := rfl
  have hmem : ∀ s ∈ comeL x.Kind p t r n A own B, (∃ y ∈ c, s.In = y.In ∧ s.Sent = y.Sent ∧ s.Time = y.Time) ∨ (s = dirty (upd p r n own)) := fun s hs => by
    unfold comeL at hs
    have hm : ∀ y ∈ c, ∃ z ∈ c, (CE.mk x.Kind t y).In = z.In ∧ (CE.mk x.Kind t y).Sent = z.Sent ∧ (CE.mk x.Kind t y).Time = z.Time := fun y hy => ⟨y, hy, by unfold CE.mk; split <;> exact ⟨rfl, rfl, rfl⟩⟩
    rcases List.mem_append.1 hs with hs | hs
    · obtain ⟨y, hy, rfl⟩ := List.mem_map.1 hs
      exact .inl (hm y (hsp.memA.1 y hy))
    · rcases List.mem_append.1 hs with hs | hs
      · unfold one at hs
        split at hs
        · cases hs
        · exact .inr (List.mem_singleton.1 hs)
      · obtain ⟨y, hy, rfl⟩ := List.mem_map.1 hs
        exact .inl (hm y (hsp.memA.2 y hy))
  have hPs : ∀ u z, Psum (comeL x.Kind p t r n A own B) u z = Psum c u z + if p = 0 ∧ le t u then cnt nb z - cnt own.In.a0 z else 0 := fun u z => by
    unfold comeL
    rw [Psum_append, Psum_append, Psum_map, Psum_map, Psum_one, hsp.psum u z]
    have e1 : (dirty (upd p r n own)).Time = t := hsp.time
    have e2 : (dirty (upd p r n own)).In.a0 = if p = 0 then ad own.In.a0 r n else own.In.a0 := rfl
    rw [e1, e2, hnb]
    rcases hp with rfl | rfl
    · simp only [if_true, true_and]
      split <;> omega
    · rw [if_neg (show ¬ ((1 : Int) = 0) by decide), if_neg (show ¬ ((1 : Int) = 0 ∧ le t u) from fun h => absurd h.1 (by decide))]
      omega
  refine ⟨hcl', ?_, fun s hs => ?_, fun s hs => ?_, hi2.dist h.dist, by have := hi2.len; have := h.innL; omega, fun u => ?_, fun u => ?_, fun s hs => ?_, fun u => ?_, h.sntL, fun u z => ?_, fun u ps g1 g2 g3 g4 => ?_⟩
  · have := hsp.len
    have := h.len
    have := one_len (dirty (upd p r n own))
    unfold comeL
    simp only [List.length_append, List.length_map]; omega
  · rcases hmem s hs with ⟨y, hy, e1, e2, e3⟩ | e
    · rw [e1]; exact ⟨(h.small y hy).1.up (by omega), (h.small y hy).2.up (by omega)⟩
    · rw [e]
      show SmallK (K + 1) (upd p r n own).In.a0 ∧ SmallK (K + 1) (upd p r n own).In.a1
      rw [hu0, hu1]
      rcases hp with rfl | rfl
      · exact ⟨k0c, ws1.up (by omega)⟩
      · exact ⟨ws0.up (by omega), k1c⟩
  · rcases hmem s hs with ⟨y, hy, e1, e2, e3⟩ | e
    · rw [e2]; exact h.fine y hy
    · rw [e]; exact wf
  · rw [hlk, hIn, (hi2.at_ u).1]
    by_cases hu : u = t
    · rw [if_pos hu, hu0, hnb]
      by_cases hp0 : p = 0
      · rw [if_pos ⟨hu, hp0⟩, if_pos hp0, if_pos hp0]
      · rw [if_neg (fun q => hp0 q.2), if_neg hp0, hu, hold0]
    · rw [if_neg (fun q => hu q.1), if_neg hu, h.in0]
  · rw [hlk, hIn, (hi2.at_ u).2]
    by_cases hu : u = t
    · rw [if_pos hu, hu1, hnb]
      by_cases hp0 : p = 0
      · rw [if_neg (fun q => q.2 hp0), if_pos hp0, hu, hold1]
      · rw [if_pos ⟨hu, hp0⟩, if_neg hp0, if_neg hp0]
    · rw [if_neg (fun q => hu q.1), if_neg hu, h.in1]
  · rcases hmem s hs with ⟨y, hy, e1, e2, e3⟩ | e
    · rw [e3]; exact (hi2.has _).2 (.inl (h.cov y hy))
    · rw [e]; exact (hi2.has _).2 (.inr hsp.time)
  · rw [hlk, hSent, h.snt]
  · rw [hPs, hi2.sum, h.sum, hold0]
  · rw [hlk] at g4 ⊢
    unfold step at g4 ⊢
    by_cases hu : u = t
    · rw [if_pos hu] at g4 ⊢
      refine dflt_done g3 ?_
      unfold nz at g4 ⊢
      by_cases hem : emp (dirty (upd p r n (look c u))) = true
      · rw [if_pos hem]; rfl
      · rw [if_neg hem] at g4; cases g4
    · rw [if_neg hu] at g4 ⊢
      by_cases hem : emp (look c u) = true
      · refine dflt_done g3 ?_
        unfold mkE; rw [if_pos hem]; exact hem
      · obtain ⟨q1, q2, q3⟩ := mkE_in x.Kind t (look c u)
        rw [q1, q2]
        unfold mkE CE.mk at g4
        rw [if_neg hem] at g4
        by_cases h14 : tot14 x.Kind t (look c u) = true
        · rw [if_pos h14] at g4; cases g4
        · rw [if_neg h14] at g4
          obtain ⟨ps0, f1, f2, f3, f4⟩ := h.past (by omega) u
          have hd := h.done u ps0 f2 f3 f4 g4
          by_cases hk : x.Kind = 14
          · have : ps = ps0 := Rt.unique g1 f2 fun z => by
              rw [g2, f3, hPs]
              have hnl : ¬ le t u := fun hl => h14 (by
                unfold tot14
                rw [look_time, decide_eq_true hl, hk]; rfl)
              rw [if_neg (fun q => hnl q.2)]; omega
            rw [this]; exact hd
          · rw [if_neg hk] at hd ⊢; exact hd
/-- What a slot's making comes to. -/
def Fails (x : GNode) (c : List GSlot) : Prop := ∃ s ∈ c, ∃ ps now, Rt ps ∧ (∀ z, cnt ps z = Psum c s.Time z) ∧ ps.length ≤ 60000 ∧ f_ops_Apply x [s.In.a0, if x.Kind = 14 then ps else s.In.a1] = some (now, false)
theorem Inv.make {x : GNode} {K L : Nat} {A B : List GSlot} {s : GSlot} {inn sent : List Came} {lazy : Bool} (h : Inv x K L (A ++ s :: B) inn sent) (hK : K ≤ 100) (hL : L < 900000) (hd : s.Dirty = true) :
    (∃ a b, f_cell_Make (A ++ s :: B) x s.Time lazy = some (A ++ s :: B, a, b, false) ∧ Fails x (A ++ s :: B)) ∨
    (∃ c' take give d sent', f_cell_Make (A ++ s :: B) x s.Time lazy = some (c', take, give, true) ∧ f_bag_Minus give take = some d ∧ f_backwashlaw15_more_s0_0 sent s.Time 0 d = some sent' ∧ Inv x K (L + 1) c' inn sent' ∧ (c'.filter (·.Dirty)).length + 1 = ((A ++ s :: B).filter (·.Dirty)).length) := by
  have hms : s ∈ A ++ s :: B := by simp
  obtain ⟨ps, f1, f2, f3, f4⟩ := h.past (by omega) s.Time
  have ls := (h.small s hms)
  obtain ⟨v, hv, hfine⟩ := Apply_fact (x := x) (a := s.In.a0) (b := if x.Kind = 14 then ps else s.In.a1) (by have := ls.1.len; omega) (by
    split
    · exact f4
    · have := ls.2.len; omega)
  obtain ⟨m1, m2⟩ := Make_ok (lazy := lazy) h.cl (h.sz (by omega)) (by omega) hd (fun _ => f1) hv (h.fine s hms) hfine
  cases hok : v.2 with
  | false =>
    obtain ⟨now, b⟩ := v
    simp only at hok; subst hok
    exact .inl ⟨_, _, m1 rfl, s, hms, ps, now, f2, f3, f4, hv⟩
  | true =>
    right
    obtain ⟨take, give, d, e1, e2, e3⟩ := m2 hok
    have hlook : look (A ++ s :: B) s.Time = s := look_mem h.cl hms
    have hold : at0 sent s.Time = s.Sent := by rw [h.snt, hlook]
    have hf := h.fine s hms
    obtain ⟨nb, p1, p2⟩ := Plus_ok hf.rt e3.rt (by have := hf.big; have := e3.big; omega) (by have := hf.len; have := e3.len; omega)
    have hnb : nb = v.1 := Rt.unique p2.rt hfine.rt fun z => by rw [p2.cnt, e3.cnt]; omega
    subst hnb
    obtain ⟨sent', s1, s2⟩ := more_ok (l := sent) (t := s.Time) (p := 0) (b := d) (nb := v.1) (.inl rfl) (by have := h.sntL; omega) (by unfold atp; rw [if_pos rfl, hold]; exact p1)
    have hsp := h.cl.sp
    have hpw := List.pairwise_append.1 h.cl.inc
    have hpw2 := List.pairwise_cons.1 hpw.2.1
    have hgs := h.cl.good s hms
    have hcl' : Cl (A ++ (one (madeS s v.1) ++ B)) := by
      have hone : ∀ y ∈ one (madeS s v.1), y = madeS s v.1 ∧ emp (madeS s v.1) = false := fun y hy => by
        unfold one at hy
        split at hy
        · cases hy
        · rename_i h1
          exact ⟨List.mem_singleton.1 hy, by simpa using h1⟩
      refine ⟨List.pairwise_append.2 ⟨hpw.1, List.pairwise_append.2 ⟨by unfold one; split <;> simp, hpw2.2, fun a ha b hb => ?_⟩, fun a ha b hb => ?_⟩, fun y hy => ?_⟩
      · rw [(hone a ha).1]; exact hsp.hi b hb
      · rcases List.mem_append.1 hb with hb | hb
        · rw [(hone b hb).1]; exact hsp.lo a ha
        · exact hpw.2.2 a ha b (by simp [hb])
      · rcases List.mem_append.1 hy with hy | hy
        · exact h.cl.good y (by simp [hy])
        · rcases List.mem_append.1 hy with hy | hy
          · obtain ⟨q1, q2⟩ := hone y hy
            rw [q1]; exact ⟨hgs.time, q2, hgs.a0, hgs.a1, hfine.rt⟩
          · exact h.cl.good y (by simp [hy])
    have hlk : ∀ u, look (A ++ (one (madeS s v.1) ++ B)) u = if u = s.Time then nz (madeS s v.1) else look (A ++ s :: B) u := fun u => by
      unfold look
      rw [List.find?_append, List.find?_append, List.find?_append, List.find?_cons]
      by_cases hu : u = s.Time
      · subst hu
        rw [if_pos rfl]
        have hfA : A.find? (fun y => decide (y.Time = s.Time)) = none := List.find?_eq_none.2 fun y hy => by
          have := hsp.lo y hy
          simp only [decide_eq_true_eq]
          intro e; rw [e] at this; omega
        have hfB : B.find? (fun y => decide (y.Time = s.Time)) = none := List.find?_eq_none.2 fun y hy => by
          have := hsp.hi y hy
          simp only [decide_eq_true_eq]
          intro e; rw [e] at this; omega
        rw [hfA, hfB]
        unfold one nz
        by_cases hem : emp (madeS s v.1) = true
        · rw [if_pos hem, if_pos hem]; rfl
        · rw [if_neg hem, if_neg hem, List.find?_cons, decide_eq_true (show (madeS s v.1).Time = s.Time from rfl)]; rfl
      · rw [if_neg hu, decide_eq_false (fun e => hu e.symm)]
        have : (one (madeS s v.1)).find? (fun y => decide (y.Time = u)) = none := List.find?_eq_none.2 fun y hy => by
          unfold one at hy
          split at hy
          · cases hy
          · rw [List.mem_singleton] at hy; subst hy
            simp only [decide_eq_true_eq]
            exact fun e => hu e.symm
        rw [this]; rfl
    have hmem : ∀ y ∈ A ++ (one (madeS s v.1) ++ B), y ∈ A ++ s :: B ∨ y = madeS s v.1 := fun y hy => by
      rcases List.mem_append.1 hy with hy | hy
      · exact .inl (by simp [hy])
      · rcases List.mem_append.1 hy with hy | hy
        · unfold one at hy
          split at hy
          · cases hy
          · exact .inr (List.mem_singleton.1 hy)
        · exact .inl (by simp [hy])
    have hPs : ∀ u z, Psum (A ++ (one (madeS s v.1) ++ B)) u z = Psum (A ++ s :: B) u z := fun u z => by
      rw [Psum_append, Psum_append, Psum_append, Psum_one]
      rfl
    have hnz : (nz (madeS s v.1)).In = s.In ∧ (nz (madeS s v.1)).Sent = v.1 := ⟨(nz_in _).1, (nz_in _).2.1⟩
    refine ⟨_, take, give, d, sent', e1, e2, s1, ⟨hcl', ?_, fun y hy => ?_, fun y hy => ?_, h.dist, h.innL, fun u => ?_, fun u => ?_, fun y hy => ?_, fun u => ?_, by have := s2.len; have := h.sntL; omega, fun u z => by rw [hPs, h.sum], fun u qs g1 g2 g3 g4 => ?_⟩, ?_⟩
    · have := h.len
      have := one_len (madeS s v.1)
      simp only [List.length_append, List.length_cons] at *; omega
    · rcases hmem y hy with hy | hy
      · exact h.small y hy
      · rw [hy]; exact ls
    · rcases hmem y hy with hy | hy
      · exact h.fine y hy
      · rw [hy]; exact hfine
    · rw [hlk, h.in0]
      by_cases hu : u = s.Time
      · rw [if_pos hu, hnz.1, hu, hlook]
      · rw [if_neg hu]
    · rw [hlk, h.in1]
      by_cases hu : u = s.Time
      · rw [if_pos hu, hnz.1, hu, hlook]
      · rw [if_neg hu]
    · rcases hmem y hy with hy | hy
      · exact h.cov y hy
      · rw [hy]; exact h.cov s hms
    · rw [hlk, (s2.at_ u).1]
      by_cases hu : u = s.Time
      · rw [if_pos hu, if_pos ⟨hu, rfl⟩, hnz.2]
      · rw [if_neg hu, if_neg (fun q => hu q.1), h.snt]
    · rw [hlk] at g4 ⊢
      by_cases hu : u = s.Time
      · rw [if_pos hu, hnz.1, hnz.2]
        have : qs = ps := Rt.unique g1 f2 fun z => by rw [g2, f3, hPs, hu]
        rw [this, hv]
        obtain ⟨now, b⟩ := v
        simp only at hok; subst hok; rfl
      · rw [if_neg hu] at g4 ⊢
        exact h.done u qs g1 (fun z => by rw [g2, hPs]) g3 g4
    · have ho : (one (madeS s v.1)).filter (·.Dirty) = [] := by
        unfold one
        split
        · rfl
        · rfl
      rw [List.filter_append, List.filter_append, List.filter_append, List.filter_cons, if_pos hd, ho]
      simp only [List.length_append, List.length_cons, List.length_nil]; omega
theorem settle_ok {x : GNode} {K L : Nat} {c : List GSlot} {inn sent : List Came} {lazy : Bool} (m : Nat) (h : Inv x K L c inn sent) (hK : K ≤ 100) (hL : L + m < 900000) :
    Ok (f_backwashlaw15_settle_s3_0 c x lazy sent (m : Int)) (fun v => Inv x K (L + m) v.1 inn v.2.1 ∧ (v.2.2 = true → ∀ s ∈ v.1, s.Dirty = false) ∧ (v.2.2 = false → m ≤ 100 ∨ Fails x v.1)) := by
  unfold f_backwashlaw15_settle_s3_0
  have hD0 : (c.filter (·.Dirty)).length ≤ 100 := by have := List.length_filter_le (·.Dirty) c; have := h.len; omega
  refine Ok.eachG (l := List.replicate m ()) (by simp; omega) (fun i (s : List GSlot × List Came) => (s.1, i, s.2)) (fun q => q.2.1) (fun _ _ => rfl) (fun i s => Inv x K (L + i) s.1 inn s.2 ∧ (s.1.filter (·.Dirty)).length + i ≤ 100) 0 (fun rec i hi s _ hI hr => ?_) (fun rec s hI => ?_) (s0 := (c, sent)) ⟨h, by simpa using hD0⟩ (Nat.zero_le _)
  · obtain ⟨c1, s1⟩ := s
    obtain ⟨h1, h2⟩ := hI
    simp only at h1 h2
    rw [List.length_replicate] at hi
    have hsz := h1.sz (by omega)
    unfold f_backwashlaw15_settle_s3_0_B2
    refine Ok.iteB (fun _ => Ok.bind2 (Next_ok h1.cl (by have := hsz.len; show c1.length < _; omega) (fun s hs => lens_le (by omega) (hsz.each s hs))) fun v hv => ?_) (fun hx => by simp only [decide_eq_false_iff_not] at hx; omega)
    rcases hv with ⟨hv, hn⟩ | ⟨hv, A, s, B, e, hd, ht⟩
    · exact Ok.iteB (fun _ => Ok.some ⟨h1.up (Nat.le_refl _) (by omega), fun _ => hn, fun hx => by cases hx⟩) (fun hx => by rw [hv] at hx; simp at hx)
    · refine Ok.iteB (fun hx => by rw [hv] at hx; simp at hx) (fun _ => ?_)
      subst e
      rw [ht]
      rcases h1.make (lazy := lazy) hK (by omega) hd with ⟨a, b, q1, q2⟩ | ⟨c', take, give, d, sent', q1, q2, q3, q4, q5⟩
      · refine Ok.bind (Ok.of_eq q1 (Ok.iteB (fun _ => Ok.some ⟨h1.up (Nat.le_refl _) (by omega), fun hx => (by cases hx), fun _ => .inr q2⟩) (fun hx => by simp at hx)))
      · refine Ok.bind (Ok.of_eq q1 (Ok.iteB (fun hx => by simp at hx) (fun _ => Ok.bind (Ok.of_eq q2 (Ok.bind (Ok.of_eq q3 ?_))))))
        rw [wrap_i64 ((i : Int) + 1) (by omega)]
        refine hr (c', sent') ⟨q4, ?_⟩
        simp only; omega
  · obtain ⟨c1, s1⟩ := s
    obtain ⟨h1, h2⟩ := hI
    simp only at h1 h2
    rw [List.length_replicate] at h1 h2 ⊢
    have hsz := h1.sz (by omega)
    unfold f_backwashlaw15_settle_s3_0_B2
    refine Ok.iteB (fun hx => by simp at hx) (fun _ => ?_)
    unfold f_backwashlaw15_settle_s3_0_J1
    refine Ok.bind2 (Next_ok h1.cl (by have := hsz.len; show c1.length < _; omega) (fun s hs => lens_le (by omega) (hsz.each s hs))) fun v hv => Ok.some ⟨h1, fun hx => ?_, fun hx => .inl (by omega)⟩
    rcases hv with ⟨_, hn⟩ | ⟨hv, _⟩
    · exact hn
    · simp only at hx
      rw [hv] at hx; cases hx
end CE
end Go.Proofs.Ythpahhhdapdcpaa
