/-
  The law in plain words: what its plain function gives is true. No condition beyond those that each theorem names.
-/
import Derived.Test.YtngeldeahafcfaaP08h
import Derived.Test.YtngeldeahafcfaaP08b
import Derived.Test.YtngeldeahafcfaaP08f
set_option linter.unusedSimpArgs false
set_option linter.unusedVariables false
namespace Go.Proofs.Ytngeldeahafcfaa
open Go Go.RowKit
set_option linter.unusedSimpArgs false
set_option linter.unusedVariables false
/-! What is put is read. -/
def Puts {α : Type} (p : Pa α) (x : α) (bs : List UInt8) : Prop := (∀ t, p (bs ++ t) = .ok (x, t)) ∧ ∀ j, j < bs.length → p (bs.take j) = .error 3
theorem Puts.bind {α β : Type} {p : Pa α} {f : α → Pa β} {a : α} {x : β} {xs ys : List UInt8} (h1 : Puts p a xs) (h2 : Puts (f a) x ys) : Puts (bindP p f) x (xs ++ ys) := by
  refine ⟨fun t => ?_, fun j hj => ?_⟩
  · unfold bindP
    rw [List.append_assoc, h1.1]
    exact h2.1 t
  · unfold bindP
    rcases Nat.lt_or_ge j xs.length with hlt | hge
    · rw [List.take_append_of_le_length (by omega), h1.2 j hlt]
    · rw [List.take_append, List.take_of_length_le hge, h1.1]
      exact h2.2 _ (by rw [List.length_append] at hj; omega)
theorem Puts.ret {α : Type} (x : α) : Puts (retP x) x [] := ⟨fun t => rfl, fun j hj => by simp at hj⟩
theorem Puts.last {α : Type} {p : Pa α} {x : α} {xs : List UInt8} (h : Puts p x (xs ++ [])) : Puts p x xs := by rwa [List.append_nil] at h
theorem Puts.num {lo hi n : Nat} {bad : Int} (h1 : lo ≤ n) (h2 : n ≤ hi) (h3 : n < 2 ^ 64) : Puts (numP lo hi bad) (n : Int) (putU n) := by
  refine ⟨fun t => ?_, fun j hj => ?_⟩
  · unfold numP
    have := readU_put (n + 1) n t 0 0 (by omega) (by omega) (by simpa using h3) (by omega)
    simp only [this]
    rw [if_neg (by simp), if_neg (by simp; omega)]
    simp
  · unfold numP
    have := readU_short (n + 1) n j 0 0 (by omega) (by omega) (by simpa using h3) (by omega) hj
    simp only [this]
    rw [if_pos (by simp)]
    rfl
theorem Puts.low {n bad : Int} (h : Go.Proofs.Ytngeldeahafcfaa.low n) : Puts (numP 0 2147483647 bad) n (putN n) := by
  have := Puts.num (lo := 0) (hi := 2147483647) (n := n.toNat) (bad := bad) (by omega) (by have := h.2; omega) (by have := h.2; omega)
  rwa [show ((n.toNat : Nat) : Int) = n by have := h.1; omega] at this
theorem Puts.sgn {n : Int} (h : In n) : Puts sgnP n (putU (zig n)) := by
  have hz := zig_lt n h
  refine ⟨fun t => ?_, fun j hj => ?_⟩
  · unfold sgnP
    have := readU_put (zig n + 1) (zig n) t 0 0 (by omega) (by omega) (by simpa using hz) (by omega)
    simp only [this]
    rw [if_neg (by simp)]
    simp [unzig_zig]
  · unfold sgnP
    have := readU_short (zig n + 1) (zig n) j 0 0 (by omega) (by omega) (by simpa using hz) (by omega) hj
    simp only [this]
    rw [if_pos (by simp)]
    rfl
theorem Puts.rep {α : Type} {p : Pa α} {f : α → List UInt8} : ∀ {l : List α}, (∀ x ∈ l, Puts p x (f x)) → Puts (repP' p l.length) l (l.flatMap f)
  | [], _ => Puts.ret []
  | x :: l, h => by
    rw [List.flatMap_cons]
    refine Puts.bind (h x (by simp)) (Puts.last (Puts.bind (Puts.rep fun y hy => h y (by simp [hy])) (Puts.ret _)))
theorem Puts.ins {i : GIns} (h : lowI i) (hn : In i.N) : Puts insP i (insB i) :=
  Puts.bind (Puts.low h) (Puts.last (Puts.bind (Puts.sgn hn) (Puts.ret _)))
theorem Puts.node {x : GNode} (h : lowN x) (hn : In x.Arg ∧ ∀ i ∈ x.Prog, In i.N) : Puts nodeP x (nodeB x) := by
  obtain ⟨h1, h2, h3, h4⟩ := h
  refine Puts.bind (Puts.low h1) (Puts.bind (Puts.low h2) (Puts.bind (Puts.sgn hn.1) (Puts.bind (Puts.num (n := x.Prog.length) (by omega) h3 (by omega)) (Puts.last (Puts.bind ?_ (Puts.ret _))))))
  rw [Int.toNat_natCast]
  exact Puts.rep fun i hi => Puts.ins (h4 i hi) (hn.2 i hi)
theorem Puts.edge {e : GEdge} (h : lowE e) : Puts edgeP e (edgeB e) := by
  obtain ⟨h1, h2, h3⟩ := h
  have key : ∀ q : Nat, q ≤ 1 → ((q : Int) == 1) = e.Exchange → Puts (bindP (numP 0 1 4) fun x => retP (⟨e.From, e.To, e.Port, x == 1⟩ : GEdge)) e (putU q) := fun q hq he => by
    refine Puts.last (Puts.bind (Puts.num (n := q) (by omega) hq (by omega)) ?_)
    rw [he]
    exact Puts.ret _
  refine Puts.bind (Puts.low h1) (Puts.bind (Puts.low h2) (Puts.bind (Puts.low h3) ?_))
  cases hx : e.Exchange
  · exact key 0 (by omega) (by rw [hx]; rfl)
  · exact key 1 (by omega) (by rw [hx]; rfl)
theorem Puts.scope {p : Int × Int} (h1 : Go.Proofs.Ytngeldeahafcfaa.low p.1) (h2 : Go.Proofs.Ytngeldeahafcfaa.low p.2) : Puts scopeP p (scopeB p) :=
  Puts.bind (Puts.low h1) (Puts.last (Puts.bind (Puts.low h2) (Puts.ret _)))
theorem Puts.graph {g : GGraph} (hf : fitsG g) (ha : argsIn g) : Puts graphP g (graphB g) := by
  obtain ⟨P, B, N, E⟩ := g
  obtain ⟨⟨ps, bs, hP, hB, hl, hl7, hps, hbs⟩, h8, h9, hN, hE⟩ := hf
  simp only at hP hB h8 h9 hN hE
  subst hP hB
  have hz : (ps.zip bs).length = ps.length := by rw [List.length_zip]; omega
  unfold graphB
  simp only [List.tail_cons]
  refine Puts.bind (Puts.num (n := ((-1 : Int) :: ps).length) (by simp) (by simp; omega) (by simp; omega)) ?_
  have e0 : (((((-1 : Int) :: ps).length : Nat) : Int)).toNat - 1 = (ps.zip bs).length := by simp only [List.length_cons, Int.toNat_natCast]; omega
  rw [e0]
  refine Puts.bind (Puts.rep (f := scopeB) fun p hp => Puts.scope (hps _ (List.of_mem_zip hp).1) (hbs _ (List.of_mem_zip hp).2)) (Puts.bind (Puts.num (n := N.length) (by omega) h8 (by omega)) ?_)
  rw [Int.toNat_natCast]
  refine Puts.bind (Puts.rep (f := nodeB) fun x hx => Puts.node (hN x hx) (ha x hx)) (Puts.bind (Puts.num (n := E.length) (by omega) h9 (by omega)) ?_)
  rw [Int.toNat_natCast]
  refine Puts.last (Puts.bind (Puts.rep (f := edgeB) fun e he => Puts.edge (hE e he)) ?_)
  rw [List.map_fst_zip (by omega), List.map_snd_zip (by omega)]
  exact Puts.ret _
/-! What is read was put. -/
theorem zig_unzig (n : Nat) : zig (unzig n) = n := by
  unfold unzig zig
  split <;> split <;> omega
theorem unzig_in {n : Nat} (h : n < 2 ^ 64) : In (unzig n) := by
  unfold unzig In
  split <;> omega
theorem readU_whole {b : List UInt8} (h : (readU b 0 0).2.2 = 0) : b = putU (readU b 0 0).1 ++ b.drop (readU b 0 0).2.1 := by
  obtain ⟨v, e1, _, _, e4, _⟩ := readU_back b 0 0 (readU b 0 0).1 (readU b 0 0).2.1 (Prod.ext rfl (Prod.ext rfl h))
  have : (readU b 0 0).1 = v := by rw [e1]; simp
  rw [this, e4]
  simp
def Gets {α : Type} (p : Pa α) (f : α → List UInt8) (P : α → Prop) : Prop := ∀ b x t, p b = .ok (x, t) → b = f x ++ t ∧ P x
theorem Gets.num {lo hi : Nat} {bad : Int} : Gets (numP lo hi bad) putN (fun n => lo ≤ n ∧ n ≤ hi ∧ 0 ≤ n) := by
  intro b x t h
  unfold numP at h
  split at h
  · cases h
  · split at h
    · cases h
    · simp only [Except.ok.injEq, Prod.mk.injEq] at h
      obtain ⟨rfl, rfl⟩ := h
      refine ⟨?_, by omega, by omega, by omega⟩
      rw [putN_nat]
      exact readU_whole (by omega)
theorem Gets.sgn : Gets sgnP (fun n => putU (zig n)) In := by
  intro b x t h
  unfold sgnP at h
  split at h
  · cases h
  · simp only [Except.ok.injEq, Prod.mk.injEq] at h
    obtain ⟨rfl, rfl⟩ := h
    have hlt := readU_lt b 0 0 (by omega) (by simp)
    refine ⟨?_, unzig_in hlt⟩
    show b = putU (zig (unzig (readU b 0 0).1)) ++ _
    rw [zig_unzig]
    exact readU_whole (by omega)
theorem Gets.rep {α : Type} {p : Pa α} {f : α → List UInt8} {P : α → Prop} (h : Gets p f P) : ∀ (n : Nat) (b : List UInt8) (l : List α) (t : List UInt8), repP' p n b = .ok (l, t) → b = l.flatMap f ++ t ∧ (∀ x ∈ l, P x) ∧ l.length = n
  | 0, b, l, t, h0 => by
    rw [repP'_zero] at h0
    simp only [Except.ok.injEq, Prod.mk.injEq] at h0
    obtain ⟨rfl, rfl⟩ := h0
    exact ⟨by simp, by simp, rfl⟩
  | n + 1, b, l, t, h0 => by
    have h1 : bindP p (fun x => bindP (repP' p n) fun xs => retP (x :: xs)) b = .ok (l, t) := h0
    obtain ⟨x, b1, h2, h3⟩ := bindP_ok h1
    obtain ⟨xs, b2, h4, h5⟩ := bindP_ok h3
    obtain ⟨rfl, rfl⟩ := retP_ok h5
    obtain ⟨e1, p1⟩ := h b x b1 h2
    obtain ⟨e2, p2, e3⟩ := Gets.rep h n b1 xs t h4
    refine ⟨by rw [e1, e2]; simp, ?_, by simp [e3]⟩
    intro y hy
    rcases List.mem_cons.1 hy with rfl | hy
    · exact p1
    · exact p2 y hy
theorem Gets.ins : Gets insP insB (fun i => lowI i ∧ In i.N) := by
  intro b x t h
  obtain ⟨o, b1, h1, h⟩ := bindP_ok h
  obtain ⟨n, b2, h2, h⟩ := bindP_ok h
  obtain ⟨rfl, rfl⟩ := retP_ok h
  obtain ⟨e1, p1⟩ := Gets.num _ _ _ h1
  obtain ⟨e2, p2⟩ := Gets.sgn _ _ _ h2
  exact ⟨by rw [e1, e2]; simp [insB], ⟨p1.2.2, p1.2.1⟩, p2⟩
theorem Gets.node : Gets nodeP nodeB (fun x => lowN x ∧ In x.Arg ∧ ∀ i ∈ x.Prog, In i.N) := by
  intro b x t h
  obtain ⟨k, b1, h1, h⟩ := bindP_ok h
  obtain ⟨s, b2, h2, h⟩ := bindP_ok h
  obtain ⟨a, b3, h3, h⟩ := bindP_ok h
  obtain ⟨n, b4, h4, h⟩ := bindP_ok h
  obtain ⟨l, b5, h5, h⟩ := bindP_ok h
  obtain ⟨rfl, rfl⟩ := retP_ok h
  obtain ⟨e1, p1⟩ := Gets.num _ _ _ h1
  obtain ⟨e2, p2⟩ := Gets.num _ _ _ h2
  obtain ⟨e3, p3⟩ := Gets.sgn _ _ _ h3
  obtain ⟨e4, p4⟩ := Gets.num _ _ _ h4
  obtain ⟨e5, p5, e6⟩ := Gets.rep Gets.ins _ _ _ _ h5
  refine ⟨?_, ⟨⟨p1.2.2, p1.2.1⟩, ⟨p2.2.2, p2.2.1⟩, by simp only; omega, fun i hi => (p5 i hi).1⟩, p3, fun i hi => (p5 i hi).2⟩
  have : putN n = putU l.length := by rw [e6]; rfl
  rw [e1, e2, e3, e4, e5, this]
  simp [nodeB]
theorem Gets.edge : Gets edgeP edgeB lowE := by
  intro b x t h
  obtain ⟨k, b1, h1, h⟩ := bindP_ok h
  obtain ⟨s, b2, h2, h⟩ := bindP_ok h
  obtain ⟨a, b3, h3, h⟩ := bindP_ok h
  obtain ⟨n, b4, h4, h⟩ := bindP_ok h
  obtain ⟨rfl, rfl⟩ := retP_ok h
  obtain ⟨e1, p1⟩ := Gets.num _ _ _ h1
  obtain ⟨e2, p2⟩ := Gets.num _ _ _ h2
  obtain ⟨e3, p3⟩ := Gets.num _ _ _ h3
  obtain ⟨e4, p4⟩ := Gets.num _ _ _ h4
  refine ⟨?_, ⟨p1.2.2, p1.2.1⟩, ⟨p2.2.2, p2.2.1⟩, p3.2.2, p3.2.1⟩
  have : putN n = putU (if (n == 1) = true then 1 else 0) := by
    obtain ⟨_, h5, h6⟩ := p4
    rcases (by omega : n = 0 ∨ n = 1) with rfl | rfl <;> rfl
  rw [e1, e2, e3, e4, this]
  simp [edgeB]
theorem Gets.scope : Gets scopeP scopeB (fun p => low p.1 ∧ low p.2) := by
  intro b x t h
  obtain ⟨k, b1, h1, h⟩ := bindP_ok h
  obtain ⟨s, b2, h2, h⟩ := bindP_ok h
  obtain ⟨rfl, rfl⟩ := retP_ok h
  obtain ⟨e1, p1⟩ := Gets.num _ _ _ h1
  obtain ⟨e2, p2⟩ := Gets.num _ _ _ h2
  exact ⟨by rw [e1, e2]; simp [scopeB], ⟨p1.2.2, p1.2.1⟩, p2.2.2, p2.2.1⟩
theorem Gets.graph : Gets graphP graphB (fun g => fitsG g ∧ argsIn g) := by
  intro b x t h
  obtain ⟨n, b1, h1, h⟩ := bindP_ok h
  obtain ⟨l, b2, h2, h⟩ := bindP_ok h
  obtain ⟨k, b3, h3, h⟩ := bindP_ok h
  obtain ⟨ns, b4, h4, h⟩ := bindP_ok h
  obtain ⟨m, b5, h5, h⟩ := bindP_ok h
  obtain ⟨es, b6, h6, h⟩ := bindP_ok h
  obtain ⟨rfl, rfl⟩ := retP_ok h
  obtain ⟨e1, p1⟩ := Gets.num _ _ _ h1
  obtain ⟨e2, p2, q2⟩ := Gets.rep Gets.scope _ _ _ _ h2
  obtain ⟨e3, p3⟩ := Gets.num _ _ _ h3
  obtain ⟨e4, p4, q4⟩ := Gets.rep Gets.node _ _ _ _ h4
  obtain ⟨e5, p5⟩ := Gets.num _ _ _ h5
  obtain ⟨e6, p6, q6⟩ := Gets.rep Gets.edge _ _ _ _ h6
  refine ⟨?_, ⟨⟨l.map (·.1), l.map (·.2), rfl, rfl, by simp, by simp; omega, ?_, ?_⟩, by simp only; omega, by simp only; omega, fun y hy => (p4 y hy).1, p6⟩, fun y hy => (p4 y hy).2⟩
  · have a1 : putN n = putU (l.length + 1) := by rw [q2]; unfold putN; congr 1; omega
    have a2 : putN k = putU ns.length := by rw [q4]; rfl
    have a3 : putN m = putU es.length := by rw [q6]; rfl
    have a4 : (l.map (·.1)).zip (l.map (·.2)) = l := by
      rw [List.zip_map', List.map_id'']
      intro x; rfl
    rw [e1, e2, e3, e4, e5, e6, a1, a2, a3]
    simp only [graphB, List.tail_cons, a4, List.length_cons, List.length_map, List.append_assoc]
  · intro y hy
    obtain ⟨q, hq, rfl⟩ := List.mem_map.1 hy
    exact (p2 q hq).1
  · intro y hy
    obtain ⟨q, hq, rfl⟩ := List.mem_map.1 hy
    exact (p2 q hq).2
/-! An error is none of nought. -/
def NZ {α : Type} (p : Pa α) : Prop := ∀ b e, p b = .error e → e ≠ 0
theorem NZ.bind {α β : Type} {p : Pa α} {f : α → Pa β} (h1 : NZ p) (h2 : ∀ a, NZ (f a)) : NZ (bindP p f) := by
  intro b e h
  unfold bindP at h
  split at h
  · cases h; exact h1 _ _ (by assumption)
  · exact h2 _ _ _ h
theorem NZ.ret {α : Type} {x : α} : NZ (retP x) := fun b e h => by cases h
theorem NZ.num {lo hi : Nat} {bad : Int} (hb : bad ≠ 0) : NZ (numP lo hi bad) := by
  intro b e h
  unfold numP at h
  split at h
  · cases h; omega
  · split at h
    · cases h; exact hb
    · cases h
theorem NZ.sgn : NZ sgnP := by
  intro b e h
  unfold sgnP at h
  split at h
  · cases h; omega
  · cases h
theorem NZ.rep {α : Type} {p : Pa α} (h : NZ p) : ∀ n, NZ (repP' p n)
  | 0 => NZ.ret
  | n + 1 => NZ.bind h fun _ => NZ.bind (NZ.rep h n) fun _ => NZ.ret
theorem NZ.graph : NZ graphP := by
  have hn : ∀ lo hi, NZ (numP lo hi 2) := fun lo hi => NZ.num (by decide)
  have hn2 : ∀ lo hi, NZ (numP lo hi 11) := fun lo hi => NZ.num (by decide)
  have hn3 : ∀ lo hi, NZ (numP lo hi 4) := fun lo hi => NZ.num (by decide)
  have hi : NZ insP := NZ.bind (hn _ _) fun _ => NZ.bind NZ.sgn fun _ => NZ.ret
  have hs : NZ scopeP := NZ.bind (hn _ _) fun _ => NZ.bind (hn _ _) fun _ => NZ.ret
  have he : NZ edgeP := NZ.bind (hn _ _) fun _ => NZ.bind (hn _ _) fun _ => NZ.bind (hn _ _) fun _ => NZ.bind (hn3 _ _) fun _ => NZ.ret
  have hno : NZ nodeP := NZ.bind (hn _ _) fun _ => NZ.bind (hn _ _) fun _ => NZ.bind NZ.sgn fun _ => NZ.bind (hn2 _ _) fun _ => NZ.bind (NZ.rep hi _) fun _ => NZ.ret
  exact NZ.bind (hn2 _ _) fun _ => NZ.bind (NZ.rep hs _) fun _ => NZ.bind (hn2 _ _) fun _ => NZ.bind (NZ.rep hno _) fun _ => NZ.bind (hn2 _ _) fun _ => NZ.bind (NZ.rep he _) fun _ => NZ.ret
theorem readG_zero {b : List UInt8} {g : GGraph} (h : readG b = (g, 0)) : b = putG g ∧ fitsG g ∧ argsIn g := by
  unfold readG at h
  split at h
  · cases h
  split at h
  · cases h
  · simp only [Prod.mk.injEq] at h; obtain ⟨_, h⟩ := h; split at h <;> cases h
  · simp only [Prod.mk.injEq] at h; obtain ⟨_, h⟩ := h; split at h <;> cases h
  · rename_i x y z r
    split at h
    · rename_i hh
      obtain ⟨rfl, rfl, rfl⟩ := hh
      unfold bodyG at h
      split at h
      · rename_i e he
        simp only [Prod.mk.injEq] at h
        exact absurd h.2 (NZ.graph _ _ he)
      · rename_i g' r' hg
        split at h
        · rename_i hr
          subst hr
          simp only [Prod.mk.injEq, and_true] at h
          subst h
          obtain ⟨e, p⟩ := Gets.graph _ _ _ hg
          rw [List.append_nil] at e
          exact ⟨by rw [e]; rfl, p⟩
        · cases h
    · cases h
theorem readG_put {g : GGraph} (hf : fitsG g) (ha : argsIn g) (hl : (putG g).length ≤ 8192) : readG (putG g) = (g, 0) := by
  have := (Puts.graph hf ha).1 []
  rw [List.append_nil] at this
  unfold readG
  rw [if_neg (by omega)]
  simp only [putG, List.cons_append, List.nil_append]
  rw [if_pos (by simp)]
  unfold bodyG
  rw [this]
  simp
theorem readG_more {g : GGraph} {x : UInt8} (hf : fitsG g) (ha : argsIn g) (hl : (putG g).length < 8192) : readG (putG g ++ [x]) = (noG, 4) := by
  have := (Puts.graph hf ha).1 [x]
  unfold readG
  rw [if_neg (by rw [List.length_append]; simp; omega)]
  simp only [putG, List.cons_append, List.nil_append]
  rw [if_pos (by simp)]
  unfold bodyG
  rw [this]
  simp
theorem readG_cut {g : GGraph} {j : Nat} (hf : fitsG g) (ha : argsIn g) (hl : (putG g).length ≤ 8192) (hj : j < (putG g).length) : readG ((putG g).take j) = (noG, 3) := by
  unfold readG
  rw [if_neg (by rw [List.length_take]; omega)]
  match j with
  | 0 => simp [putG]
  | 1 => simp [putG]
  | 2 => simp [putG]
  | j + 3 =>
    simp only [putG, List.cons_append, List.nil_append, List.take_succ_cons]
    rw [if_pos (by simp)]
    unfold bodyG
    rw [(Puts.graph hf ha).2 j (by simp [putG] at hj; omega)]
end Go.Proofs.Ytngeldeahafcfaa

