/-
  The law in plain words: what its plain function gives is true. No condition beyond those that each theorem names.
-/
import Derived.Test.YteibkihbdgphnaaGreatWalkMP1
import Derived.Test.YteibkihbdgphnaaGreatP12o
set_option linter.unusedSimpArgs false
set_option linter.unusedVariables false
set_option linter.unusedSectionVars false
open List renaming getElem?_eq_getElem -> Xa, mem_of_mem_eraseIdx -> Xb, length_eraseIdx -> Xc
open Option renaming some.inj -> Xd
namespace Go.Proofs.YteibkihbdgphnaaGreat
open Go Go.RowKit TS VA BG
namespace MN
open Classical
structure Put {α β : Type} [Key α] (m m' : List α × List β) (d : β) (k : α) (x : β) : Prop where
 len : m'.1.length = m'.2.length
 nd : m'.1.Nodup
 look : look m' d = upd (look m d) k x
 mem : ∀ y ∈ m'.2, y ∈ m.2 \/ y = x
 sum : ∀ f : β -> Int, f d = 0 -> (m'.2.map f).sum = (m.2.map f).sum - f (MN.look m d k) + f x
section
variable {α β : Type} [Key α]
theorem z6v {m : List α × List β} {d x : β} {k : α} (x0 : β) (hl : m.1.length = m.2.length) (hn : m.1.Nodup) (hf : q2u m.1 k = none) : Put m (m.1 ++ [k], (m.2 ++ [x0]).set m.1.length x) d k x := by
 have hni := q96 hf; rw [zj1 hl]; refine ⟨by simp [hl], List.nodup_append.2 ⟨hn, by simp, fun a ha c hc e => hni (by simp at hc; rw [<- hc, <- e]; exact ha)⟩, ?_, fun y hy => ?_, fun f hf0 => ?_⟩
 . funext q; rw [z7c hl hni]; rfl
 .
  rcases List.mem_append.1 hy with h | h
  . exact .inl h
  . simp at h; exact .inr h
 . rw [z9k, q92 hni, hf0]; omega
theorem z6u {m : List α × List β} {d x : β} {k : α} {i : Nat} (hl : m.1.length = m.2.length) (hn : m.1.Nodup) (hf : q2u m.1 k = some i) : Put m (m.1, m.2.set i x) d k x := by
 obtain ⟨hi, _, hg, _⟩ := qb8 (d := d) hl hf; refine ⟨by simp [hl], hn, ?_, fun y hy => List.mem_or_eq_of_mem_set hy, fun f _ => ?_⟩
 . funext q; rw [z7a hl hf]; rfl
 .
  rw [z5f hi]; have : m.2[i] = look m d k := by rw [Xa hi] at hg; exact Xd hg
  rw [this]
end
theorem zb8 {g : GGraph} {C most : Int} {r : GMean_runner} (hS : St g C most r) {n : Nat} {t : GTime} {i : Nat} (hf : q2u r.ins.1 (⟨n, t⟩ : GMean_point) = some i) {past : List Int × List (List GCount)} {bags : List GMean_point × List (List GItem)} {k : Int} (hpl : past.1.length = past.2.length) (hpn : past.1.Nodup) (hbl : bags.1.length = bags.2.length) (hbn : bags.1.Nodup)
  (hps : (past.2.map fun l => (l.length : Int)).sum = (r.past.2.map fun l => (l.length : Int)).sum + k) (hk : k <= 1) (hbs : (bags.2.map tot).sum <= (r.bags.2.map tot).sum + tot ((ab r).ins ⟨n, t⟩).a0) (hpt : ∀ l ∈ past.2, ∀ c ∈ l, ok c.Time) (hbb : ∀ b ∈ bags.2, Fn b /\ tot b <= C + r.work) :
  St g C most ⟨r.g, (r.ins.1.eraseIdx i, r.ins.2.eraseIdx i), past, bags, r.work, r.most, r.outs, r.e⟩ /\ ((r.ins.2.eraseIdx i).map bt).sum + bt ((ab r).ins ⟨n, t⟩) = (r.ins.2.map bt).sum := by
 have hI := hS.inv; obtain ⟨hi, _, hg, hm⟩ := qb8 (d := no2) hI.il hf; have hv := hI.ibag _ hm; have hgi : r.ins.2[i] = (ab r).ins ⟨n, t⟩ := by rw [Xa hi] at hg; exact Xd hg
 have hse := zb9 (f := bt) hi; rw [hgi] at hse; have hv1 : 1 <= bt ((ab r).ins ⟨n, t⟩) := hv.2.2; have hv2 : tot ((ab r).ins ⟨n, t⟩).a0 <= bt ((ab r).ins ⟨n, t⟩) := by
  have := hv.2.1.len
  show tot _ <= tot _ + tot _
  have : 0 <= tot ((ab r).ins ⟨n, t⟩).a1 := by have := hv.2.1.len; show 0 <= tot (look r.ins no2 _).a1; omega
  omega
 have h1 := hI.pot; have h3 := hI.pot3; refine ⟨⟨⟨hI.gr, ?_, (List.eraseIdx_sublist _ _).nodup hI.ind, fun p hp => hI.ipt p (Xb hp), fun x hx => hI.ibag x (Xb hx), hpl, hpn, hbl, hbn, hbb, ?_, hpt, ?_⟩, hS.mo, hS.w0, hS.wm, hS.wx⟩, by omega⟩
 . have hl := hI.il; dsimp only; rw [Xc, Xc, hl]
 . dsimp only; omega
 . dsimp only; omega
theorem j7e {g : GGraph} (hG : VA.Good g) {C most : Int} (hC : 0 <= C) (hmo : 0 <= most) (hCm : C + most <= 7000) {r : GMean_runner} (hS : St g C most r) {n : Nat} (hn : n < g.Nodes.length) {t : GTime} (ht : okz t) :
  Ok (q44 r n t) fun v => v.1 = (q1m g most (ab r) n t).1 /\ St g C most v.2 /\ ab v.2 = (q1m g most (ab r) n t).2 := by
 have hI := hS.inv; have hnl := hG.nl; have hok : Key.okb (⟨n, t⟩ : GMean_point) = true := by
  rcases ht with ht | rfl
  . exact z6w ⟨by omega, by omega⟩ ht
  .
   show (Key.okb (n : Int) && Key.okb (0 : Int) && Key.okb (0 : Int) && Key.okb (0 : Int) && Key.okb (0 : Int) && Key.okb (0 : Int)) = true
   rw [z9r (x := (n : Int)) (by omega) (by omega)]; decide
 unfold q44
 cases hf : q2u r.ins.1 (⟨n, t⟩ : GMean_point) with
 | none =>
  rw [ql1]; refine Ok.guard hok ?_; have h0 : (ab r).ins ⟨n, t⟩ = no2 := q92 (q96 hf); unfold q1m; rw [if_pos (.inl h0)]; exact Ok.some ⟨rfl, hS, rfl⟩
 | some i =>
  obtain ⟨hi, ha, hg, hm⟩ := qb8 (d := no2) hI.il hf; have hpt : PtM g ⟨n, t⟩ := hI.ipt _ (j2f hf); have hv := hI.ibag _ hm; rw [ql0, ha]; have hL : look r.ins no2 ⟨n, t⟩ = (ab r).ins ⟨n, t⟩ := rfl; rw [hL] at hv ⊢; refine Ok.bind (Ok.some ?_); have hne : (ab r).ins ⟨n, t⟩ ≠ no2 := fun e => by rw [e] at hv; have := hv.2.2; simp [no2, bt, tot] at this
  refine jh5 (fun h => ?_) (fun h => ?_)
  .
   have h : r.e ≠ 0 := by simpa using h
   unfold q1m; rw [if_pos (.inr h)]; exact Ok.some ⟨rfl, hS, rfl⟩
  have he : r.e = 0 := by simpa using h
  have hwm := hS.wm he; unfold q1m; rw [if_neg (fun h => h.elim hne (fun h => h he))]; rw [hI.gr]; refine Ok.bind (jh6 hn (Ok.guard (by decide) ?_)); rw [qc0 hn]; have hbm := hI.sums.2.2 _ hm; have hl0 := hv.1.len; have hl1 := hv.2.1.len; have hbt : bt ((ab r).ins ⟨n, t⟩) = tot ((ab r).ins ⟨n, t⟩).a0 + tot ((ab r).ins ⟨n, t⟩).a1 := rfl; have hbm' : bt ((ab r).ins ⟨n, t⟩) <= C + r.work := hbm; have hdel : look (r.ins.1.eraseIdx i, r.ins.2.eraseIdx i) no2 = upd (look r.ins no2) ⟨n, t⟩ no2 := by
   funext q; rw [zl5 hI.il hI.ind hf]; rfl
  refine jh5 (fun h14 => ?_) (fun h14 => ?_)
  .
   have h14 : (nd g n).Kind = 14 := by simpa using h14
   rw [if_pos h14]
   -- whatever the maps were
   have key : ∀ (past : List Int × List (List GCount)) (bags : List GMean_point × List (List GItem)), Put r.past past [] (n : Int) ((ab r).past n ++ [⟨t, 1⟩]) -> Put r.bags bags [] ⟨n, t⟩ ((ab r).ins ⟨n, t⟩).a0 ->
     Ok (q9 (q10 ⟨g, (r.ins.1.eraseIdx i, r.ins.2.eraseIdx i), past, bags, r.work, r.most, r.outs, r.e⟩ n t) fun v => q0t n t (nd g n) [((ab r).ins ⟨n, t⟩).a0, v.1] v.2) fun v =>
      v.1 = (qj3 g most n t ((ab r).ins ⟨n, t⟩).a0 (z3b (takeA g n t (ab r)) n t) (takeA g n t (ab r))).1 /\ St g C most v.2 /\ ab v.2 = (qj3 g most n t ((ab r).ins ⟨n, t⟩).a0 (z3b (takeA g n t (ab r)) n t) (takeA g n t (ab r))).2 := by
    intro past bags hp hb; have hb0 := hb.sum tot (by simp [tot]); have hold : 0 <= tot (look r.bags [] ⟨n, t⟩) := by
     by_cases hx : (⟨n, t⟩ : GMean_point) ∈ r.bags.1
     . have := (hI.bbag _ (z7b (d := []) hI.bl hx)).1.len; have h2 : look (r.bags.1, r.bags.2) [] ⟨n, t⟩ = look r.bags [] ⟨n, t⟩ := rfl; rw [h2] at this; omega
     . rw [q92 hx]; simp [tot]
    have hp0 := hp.sum (fun l => (l.length : Int)) (by simp); have hpl : (((ab r).past n ++ [(⟨t, 1⟩ : GCount)]).length : Int) = (look r.past [] (n : Int)).length + 1 := by
     rw [List.length_append]; rfl
    obtain ⟨hS', _⟩ := zb8 hS hf (k := 1) hp.len hp.nd hb.len hb.nd (by rw [hp0, hpl]; omega) (Int.le_refl _) (by omega) (fun l hl c hc => by
     rcases hp.mem l hl with h | rfl
     . exact hI.ptm l h c hc
     .
      rcases List.mem_append.1 hc with h | h
      .
       by_cases hx : (n : Int) ∈ r.past.1
       . exact hI.ptm _ (z7b (d := []) hI.pl hx) c h
       . have : (ab r).past n = [] := q92 hx; rw [this] at h; cases h
      . simp at h; rw [h]; obtain ⟨_, _, _, h3, _⟩ := hpt; exact h3) (fun b hb' => by
     rcases hb.mem b hb' with h | rfl
     . exact hI.bbag b h
     . exact ⟨hv.1, by omega⟩)
    rw [hI.gr] at hS'; have hab : ab ⟨g, (r.ins.1.eraseIdx i, r.ins.2.eraseIdx i), past, bags, r.work, r.most, r.outs, r.e⟩ = takeA g n t (ab r) := by
     unfold takeA; rw [if_pos h14]; unfold ab; simp only [MS.mk.injEq, and_true]; exact ⟨hdel, hp.look, hb.look⟩
    refine jh4 (zw3 hS'.inv (by show C + r.work <= 7000; omega) (by omega) t) fun v hv' => ?_; obtain ⟨v1, v2, v3, v4⟩ := hv'; rw [v1, v2, hab]; have v4' : (v.1.length : Int) <= C + r.work := v4; rw [v2, hab] at v3 v4'; have := zp2 (b := z3b (takeA g n t (ab r)) n t) hG hC hmo hCm hS' he hn hpt hv.1 (by omega) (by omega) (.inr (by omega)); rw [hab] at this; exact this
   have hpn : (n : Int) < 1000000 := by omega
   cases hf2 : q2u r.past.1 (n : Int) with
   | none =>
    rw [ql1]; refine Ok.guard (z9r (by omega) (by omega)) (Ok.guard (by simp) ?_); have hp0 : (ab r).past n = [] := q92 (q96 hf2); have hP := z6v (d := []) (x := (ab r).past n ++ [(⟨t, 1⟩ : GCount)]) ([(⟨t, 1⟩ : GCount)] : List GCount) hI.pl hI.pnd hf2; rw [hp0, List.nil_append] at hP
    cases hf3 : q2u r.bags.1 (⟨n, t⟩ : GMean_point) with
    | none =>
     rw [ql1]; refine Ok.guard hok ?_; exact key _ _ (by rw [hp0]; exact hP) (z6v ((ab r).ins ⟨n, t⟩).a0 hI.bl hI.bnd hf3)
    | some j =>
     obtain ⟨_, ha3, _, _⟩ := qb8 (d := []) hI.bl hf3; rw [ql0, ha3]; refine Ok.bind (Ok.some ?_); exact key _ _ (by rw [hp0]; exact hP) (z6u hI.bl hI.bnd hf3)
   | some j =>
    obtain ⟨_, ha2, _, hm2⟩ := qb8 (d := []) hI.pl hf2; rw [ql0, ha2]; have hlen : ((look r.past [] (n : Int)).length : Int) <= C + r.work := by
     have h1 := (z5g (f := fun l : List GCount => (l.length : Int)) (fun y _ => by omega) _ hm2).1; have h2 := hI.sums.1; have := hI.pot; omega
    refine Ok.bind (Ok.some (Ok.guard (by simp only [List.length_cons, List.length_nil]; omega) ?_)); have hP := z6u (d := []) (x := (ab r).past n ++ [(⟨t, 1⟩ : GCount)]) hI.pl hI.pnd hf2
    cases hf3 : q2u r.bags.1 (⟨n, t⟩ : GMean_point) with
    | none =>
     rw [ql1]; refine Ok.guard hok ?_; exact key _ _ hP (z6v ((ab r).ins ⟨n, t⟩).a0 hI.bl hI.bnd hf3)
    | some k =>
     obtain ⟨_, ha3, _, _⟩ := qb8 (d := []) hI.bl hf3; rw [ql0, ha3]; refine Ok.bind (Ok.some ?_); exact key _ _ hP (z6u hI.bl hI.bnd hf3)
  .
   have h14 : ¬ (nd g n).Kind = 14 := by simpa using h14
   rw [if_neg h14]; obtain ⟨hS', hsum⟩ := zb8 hS hf (past := r.past) (bags := r.bags) (k := 0) hI.pl hI.pnd hI.bl hI.bnd (by omega) (by omega) (by omega) hI.ptm hI.bbag; have hab : ab ⟨g, (r.ins.1.eraseIdx i, r.ins.2.eraseIdx i), r.past, r.bags, r.work, r.most, r.outs, r.e⟩ = takeA g n t (ab r) := by
    unfold takeA; rw [if_neg h14]; unfold ab; simp only [MS.mk.injEq, and_true]; exact hdel
   rw [hI.gr] at hS'; have := zp2 (b := ((ab r).ins ⟨n, t⟩).a1) hG hC hmo hCm hS' he hn hpt hv.1 (by omega) (by omega) (.inl (by dsimp only; have := hI.pot; omega)); rw [hab] at this; exact this
end MN
end Go.Proofs.YteibkihbdgphnaaGreat
