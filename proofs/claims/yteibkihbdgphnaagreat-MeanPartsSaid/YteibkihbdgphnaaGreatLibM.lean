/-
  Maps of ours: lookups, updates, deletes; entries that are told apart. No condition beyond those that each theorem names.
-/
import Derived.Test.YteibkihbdgphnaaGreatLibD
set_option linter.unusedSimpArgs false
set_option linter.unusedVariables false
set_option linter.unusedSectionVars false
open Option renaming some.injEq -> Xa, map_some -> Xn
open List renaming getElem?_eq_some_iff -> Xb, getElem?_map -> Xc, mem_map_of_mem -> Xd, getElem?_eraseIdx -> Xf, mem_cons -> Xg, length_set -> Xh, getElem?_set_self -> Xi, mem_of_getElem? -> Xj, getElem?_set_ne -> Xk, length_map -> Xl, ext_getElem? -> Xo, mem_map -> Xp, getElem?_eq_getElem -> Xq, length_eraseIdx -> Xs, getElem?_append_right -> Xt, getElem?_append_left -> Xu, getElem?_cons_succ -> Xw, mem_append -> Xx, nodup_cons -> Xy, mem_filter -> Xz, mem_of_mem_drop -> X2, mem_of_mem_take -> X3, map_cons -> X4, mem_singleton -> X6, length_append -> X7, mem_cons_self -> X8, getElem?_inj -> Ya, all_eq_true -> Yc, length_take -> Yd, length_drop -> Ye
open Nat renaming le_refl -> Xe, lt_succ_self -> Xr, le_succ -> X0
open Prod renaming mk.injEq -> Xm
open Bool renaming and_eq_true -> Xv
open Array renaming mem_toList_iff -> X1, getElem?_push -> X5, toList_push -> X9, mem_append -> Yb
namespace Go.Proofs.YteibkihbdgphnaaGreat
section
open Go Go.RowKit
def z2k (kd : Nat) (w : World) (ow : Nat -> Prop) (g : Option Nat) (r : List AV) (u : Value) : Prop :=
 match kd with
 | 0 => ∃ b cs e, g = some b /\ u = .pointer (some ⟨b, 0, none⟩) /\ w.heap[b]? = some (.cells ⟨cs⟩ e (0, 0)) /\ cs.length = r.length /\ ∀ (k : Nat) a v, r[k]? = some a -> cs[k]? = some v -> rep w noG 0 ow a v
 | 1 => ∃ a, r = [a] /\ zg9 w ow g a u
 | _ => g = none /\ ∃ a, r = [a] /\ rep w noG 0 ow a u
def zz4 (ok : Value -> Prop) (kd : Nat) (ks : List Value) (R : List (List AV)) (foc : Option Nat) (w : World) (b : Nat) (L : List Nat) (ow : Nat -> Prop) (us : List Value) : Prop :=
 ∃ (es : Array MapEntry) (clock : Nat) (gs : Nat -> Option Nat), w.heap[b]? = some (.map es clock) /\ es.toList.map (·.key) = ks /\ ks.Nodup /\ (∀ x ∈ ks, ok x) /\ R.length = ks.length /\
  (∀ i i' g, gs i = some g -> gs i' = some g -> i = i') /\ (∀ i g, gs i = some g -> g ∈ L /\ i < R.length) /\
  (∀ i r e, R[i]? = some r -> es.toList[i]? = some e -> foc ≠ some i -> z2k kd w ow (gs i) r e.val) /\
  ((foc = none /\ us = []) \/ ∃ i e, foc = some i /\ gs i = none /\ es.toList[i]? = some e /\ us = [e.val])
theorem q54 {kd : Nat} {w w' : World} {ow ow' : Nat -> Prop} (hA : Agree w w' ow ow') {g : Option Nat} (hg : ∀ b, g = some b -> w'.heap[b]? = w.heap[b]?) {r : List AV} {u : Value} (h : z2k kd w ow g r u) : z2k kd w' ow' g r u := by
 unfold z2k at h ⊢
 split at h
 . obtain ⟨b, cs, e, rfl, h2, h3, h4, h5⟩ := h; exact ⟨b, cs, e, rfl, h2, (hg b rfl).trans h3, h4, fun k a v h6 h7 => qp0 hA (h5 k a v h6 h7)⟩
 . obtain ⟨a, rfl, h2⟩ := h; exact ⟨a, rfl, z8r hA hg h2⟩
 . obtain ⟨h1, a, rfl, h2⟩ := h; exact ⟨h1, a, rfl, qp0 hA h2⟩
def p8 (P : Program) (kt : TypeId) (kd : Nat) (ks : List Value) (R : List (List AV)) (foc : Option Nat) : Con where
 k := none
 P w b _ L ow us := zz4 (fun v => ∃ l, keyOf P kt v = some l) kd ks R foc w b L ow us
 N := False
 mpk := some (fun v => ∃ l, keyOf P kt v = some l, ks, foc)
 mpl := fun {w b C L ow us ok ks' foc'} hm ⟨es, clock, gs, h1, h2, h3, h4, h5, h6, h7, h8, h9⟩ => by
  simp only [Xa, Xm] at hm; obtain ⟨rfl, rfl, rfl⟩ := hm; refine ⟨es, clock, h1, h2, h3, h4, fun i hi => ?_⟩; rcases h9 with ⟨h9, _⟩ | ⟨i', e, h9, _, h10, rfl⟩
  . rw [hi] at h9; cases h9
  . rw [hi] at h9; simp only [Xa] at h9; subst h9; exact ⟨_, rfl, by rw [h10]; rfl⟩
 mono := fun hA hk ⟨es, clock, gs, h1, h2, h3, h4, h5, h6, h7, h8, h9⟩ => ⟨es, clock, gs, (hk _ (.inl rfl)).trans h1, h2, h3, h4, h5, h6, h7, fun i r e hr he hf => q54 hA (fun b hb => hk b (.inr (h7 i b hb).1)) (h8 i r e hr he hf), h9⟩
 cells := fun hn => by cases hn
 wr := fun hn => by cases hn
section
variable {P : Program} {kt : TypeId} {kd : Nat} {ks : List Value} {R : List (List AV)} {foc : Option Nat}
theorem j8t : (p8 P kt kd ks R foc).k = none := rfl
theorem j4c : (p8 P kt kd ks R foc).raw = false := rfl
theorem j8u : (p8 P kt kd ks R foc).N = False := rfl
theorem j8s : (p8 P kt kd ks R foc).mpk = some (fun v => ∃ l, keyOf P kt v = some l, ks, foc) := rfl
end
section
variable {P : Program} {C : Ctx P} {s : St} {a : Act} {w : World} {β : Ghost}
theorem Rel.turn (h : Rel C s a w β) {w' : World} {id b c : Nat} {K K' : Con} {ex ex' : List AV} (hg : q0e s.hp id = some (.con K ex)) (hb : β id = some (b, c)) (hsz : w'.heap.size = w.heap.size) (hK : ∀ b', b' ≠ b -> w'.heap[b']? = w.heap[b']?)
  (hobj : Agree w w' (own β s.hp C.A) (own β (q0o s.hp id (.con K' ex')) C.A) -> (∀ g ∈ β.inn id, w'.heap[g]? = w.heap[g]?) -> q5f w' β s.nx (own β (q0o s.hp id (.con K' ex')) C.A) id (.con K' ex'))
  (ho : w'.os = w.os) (ht : w'.tape = w.tape) (hout : w'.output = w.output /\ (dkF = true -> w.drawn <= w'.drawn)) : Rel C { s with hp := q0o s.hp id (.con K' ex') } a w' β := by
 have hm := q0g hg; have hmem : ∀ p ∈ q0o s.hp id (.con K' ex'), p = (id, .con K' ex') \/ (p ∈ s.hp /\ p.1 ≠ id) := fun p hp => qh4 h.hp.nd hp; have hold : ∀ p ∈ q0o s.hp id (.con K' ex'), ∃ q ∈ s.hp, q.1 = p.1 := fun p hp => by
  rcases hmem p hp with rfl | ⟨hp, _⟩
  . exact ⟨_, hm, rfl⟩
  . exact ⟨p, hp, rfl⟩
 have hinn : ∀ g ∈ β.inn id, g ≠ b := fun g hg e => (h.hp.ib _ hm g hg).2.2.1 _ hm c (by rw [e]; exact hb); refine h.tellW (Xe _) (fun _ _ => rfl) (fun _ _ _ => rfl) ?_ ?_ (by rw [q93]; exact h.hp.nd) (by rw [hsz]; exact Xe _) (fun b' _ hnb => hK b' fun e => hnb ⟨_, hm, .inl ⟨c, by rw [e]; exact hb⟩⟩) ?_ ?_ ?_ ?_ ?_ ho ht hout
 . intro p hp; obtain ⟨q, hq, he⟩ := hold p hp; exact .inl (he ▸ Xd hq)
 . intro p hp; obtain ⟨q, hq, he⟩ := hold p hp; exact he ▸ h.hp.lt q hq
 . intro p hp b1 hb1; obtain ⟨q, hq, he⟩ := hold p hp; rw [<- he] at hb1; exact ⟨by rw [hsz]; exact h.hp.bofLt q hq b1 hb1, .inl ⟨q, hq, hb1⟩⟩
 . intro p hp q hq b1 hb1 hb2; obtain ⟨p', hp', he⟩ := hold p hp; obtain ⟨q', hq', he'⟩ := hold q hq; rw [<- he] at hb1 ⊢; rw [<- he'] at hb2 ⊢; exact h.hp.bofInj p' hp' q' hq' b1 hb1 hb2
 . intro p hp b1 hb1 C' hc; obtain ⟨q, hq, he⟩ := hold p hp; rw [<- he] at hb1 hc; exact (h.hp.ib q hq b1 hb1).2.2.1 q hq C' hc
 .
  intro p hp hcn; rcases hmem p hp with rfl | ⟨hp, hx⟩
  . cases hcn
  . exact h.hp.i0 p hp hcn
 .
  intro hA p hp; rcases hmem p hp with rfl | ⟨hp, hx⟩
  . exact hobj hA fun g hg => hK g (hinn g hg)
  . exact q3m (β := β) (β' := β) hA (Xe _) (fun _ _ => rfl) (h.hp.lt p hp) (fun b1 hb1 => hK b1 fun e => hx (h.hp.bofInj p hp _ hm b1 hb1 (.inl ⟨c, by rw [e]; exact hb⟩))) (fun _ => rfl) (h.hp.obj p hp)
end
end
section
open Go Go.RowKit
section
variable {P : Program} {C : Ctx P} {s : St} {a : Act} {w : World} {β : Ghost}
theorem j1f {w : World} {b : Nat} {o : Obj} (h : b < w.heap.size) : ({ w with heap := w.heap.setIfInBounds b o } : World).heap[b]? = some o := by
 show (w.heap.setIfInBounds b o)[b]? = _
 rw [Array.getElem?_setIfInBounds_self_of_lt h]
theorem j1e {w : World} {b b' : Nat} {o : Obj} (h : b' ≠ b) : ({ w with heap := w.heap.setIfInBounds b o } : World).heap[b']? = w.heap[b']? := by
 show (w.heap.setIfInBounds b o)[b']? = _
 rw [Array.getElem?_setIfInBounds_ne (fun e => h e.symm)]
theorem Rel.turnM (h : Rel C s a w β) {id b c kd kd' : Nat} {kt kt' : TypeId} {ks ks' : List Value} {R R' : List (List AV)} {foc foc' : Option Nat} {ex ex' : List AV} {es es' : Array MapEntry} {clock clock' : Nat} (hg : q0e s.hp id = some (.con (p8 P kt kd ks R foc) ex)) (hb : β id = some (b, c)) (he : w.heap[b]? = some (.map es clock))
  (hobj : ∀ (w' : World) (ow' : Nat -> Prop), Agree w w' (own β s.hp C.A) ow' -> (∀ g ∈ β.inn id, w'.heap[g]? = w.heap[g]?) -> w'.heap[b]? = some (.map es' clock') -> ∃ us', zz4 (fun v => ∃ l, keyOf P kt' v = some l) kd' ks' R' foc' w' b (β.inn id) ow' us' /\ x9 w' β s.nx ow' ex' us') :
  Rel C { s with hp := q0o s.hp id (.con (p8 P kt' kd' ks' R' foc') ex') } a { w with heap := w.heap.setIfInBounds b (.map es' clock') } β := by
 have hlt : b < w.heap.size := (Array.getElem?_eq_some_iff.1 he).1; refine h.turn hg hb (by simp) (fun b' hb' => j1e hb') (fun hA hinn => ?_) rfl rfl ⟨rfl, fun _ => Xe _⟩; obtain ⟨us', h1, h2⟩ := hobj _ _ hA hinn (j1f hlt); exact .inl ⟨b, c, us', hb, by simpa using hlt, h1, h2⟩
theorem j4b (h : Rel C s a w β) {m : Operand} {id kd : Nat} {kt : TypeId} {ks : List Value} {R : List (List AV)} {foc : Option Nat} {ex : List AV} (hmn : (u6 s.env m).need) (hm : (u6 s.env m).st = .mp id) (hg : q0e s.hp id = some (.con (p8 P kt kd ks R foc) ex)) :
  ∃ b c us, a.eval m = .map (some b) /\ β id = some (b, c) /\ zz4 (fun v => ∃ l, keyOf P kt v = some l) kd ks R foc w b (β.inn id) (own β s.hp C.A) us /\ x9 w β s.nx (own β s.hp C.A) ex us := by
 have hmv := q1u h hmn; rw [hm] at hmv; simp only [rep] at hmv; obtain ⟨_, b, c, hb, hmv⟩ := hmv; rcases h.hp.obj _ (q0g hg) with ⟨b', c', us, h5, _, hP, hus⟩ | ⟨_, hN, _⟩
 rotate_left
 . exact hN.elim
 simp only at h5; rw [hb] at h5; simp only [Xa, Xm] at h5; obtain ⟨rfl, rfl⟩ := h5; exact ⟨b, c, us, hmv, hb, hP, hus⟩
theorem zx8 {o : Oper} {t kt e : TypeId} {m k v : Operand} {id kd : Nat} {kv : Value} {ks : List Value} {R : List (List AV)} {K : St -> Prop} (row : List AV)
  (ho : o.op = .mapUpdate t m k v) (hmn : (u6 s.env m).need) (hkn : (u6 s.env k).need) (hvn : (u6 s.env v).need) (hm : (u6 s.env m).st = .mp id) (hg : q0e s.hp id = some (.con (p8 P kt kd ks R none) [])) (ht : P.underlying t = some (.map kt e))
  (hK : Go.Maps.Keyed P kt) (hkv : z0j (u6 s.env k).st = some kv) (hl : ∃ l, keyOf P kt kv = some l) (hni : kv ∉ ks)
  (hk : K (({ s with hp := q0o s.hp id (.con (p8 P kt kd (ks ++ [kv]) (R ++ [row]) (some ks.length)) [(u6 s.env v).st]) } : St).put o.dst (.v undef))) : opW P o s K := by
 intro hd C a w β h Q; obtain ⟨b, c, us, hmv, hb, ⟨es, clock, gs, h1, h2, h3, h4, h5, h6, h7, h8, h9⟩, hus⟩ := j4b h hmn hm hg; have hkv' := qz2 hkv (q1u h hkn); have hvv := q1u h hvn; obtain ⟨l, hl⟩ := hl; have hns : ∀ e ∈ es.toList, e.key ≠ kv := fun e he hx => hni (by rw [<- h2, <- hx]; exact Xd he); have hfind : (Instr.findKey kt kv es.toList).run P w = .ok none w := by
  rcases hK.find w hl es.toList (fun e he => h4 _ (by rw [<- h2]; exact Xd he)) with ⟨f1, _⟩ | ⟨j, e0, _, f2, f3⟩
  . exact f1
  . exact absurd f3 (hns e0 (Xj f2))
 have hrun : (execOp a.eval o).run P w = .ok .skip { w with heap := w.heap.setIfInBounds b (.map (es.push ⟨kv, a.eval v, clock⟩) (clock + 1)) } := by
  unfold execOp; simp only [ho, hmv, hkv']; simp [Instr.mapUpdate, run_underlying ht, MapKept.run_getObj_map h1, hK.check w false hl, hfind, MapKept.run_setObj_map _ h1, Result.andThen]
 unfold Oper.wp; rw [hrun]; have hel : es.toList.length = ks.length := by rw [<- h2, Xl]
 have h10 := h.turnM (kt' := kt) (kd' := kd) (ks' := ks ++ [kv]) (R' := R ++ [row]) (foc' := some ks.length) (ex' := [(u6 s.env v).st]) (es' := es.push ⟨kv, a.eval v, clock⟩) (clock' := clock + 1) hg hb h1 fun w' ow' hA hinn hw' => by
  refine ⟨[a.eval v], ⟨_, _, gs, hw', ?_, ?_, ?_, ?_, h6, fun i g hi => ⟨(h7 i g hi).1, ?_⟩, fun i r e hr he hf => ?_, .inr ⟨ks.length, ⟨kv, a.eval v, clock⟩, rfl, ?_, ?_, rfl⟩⟩, ?_⟩
  . simp [h2]
  . exact List.nodup_append.2 ⟨h3, by simp, fun x hx y hy e => by rw [X6] at hy; subst hy; subst e; exact hni hx⟩
  .
   intro x hx; rw [Xx, X6] at hx; rcases hx with hx | rfl
   . exact h4 x hx
   . exact ⟨l, hl⟩
  . simp [h5]
  . rw [X7]; have := (h7 i g hi).2; omega
  . have hne : i ≠ ks.length := fun e => hf (by rw [e]); have hi := (Xb.1 hr).1; rw [X7, List.length_singleton] at hi; rw [Xu (by omega)] at hr; rw [X9, Xu (by omega)] at he; exact q54 hA (fun g hg' => hinn g (h7 i g hg').1) (h8 i r e hr he (by simp))
  .
   cases hx : gs ks.length with
   | none => rfl
   | some g => have := (h7 _ g hx).2; omega
  . rw [X9, <- hel, Xt (Xe _), Nat.sub_self]; rfl
  . simp only [x9]; exact ⟨q4v hA _ _ (Xe _) (fun _ _ => rfl) _ _ hvv, trivial⟩
 exact ⟨_, _, h10.put (by simp only [rep]) hd, hk⟩
theorem zx7 {o : Oper} {t kt e : TypeId} {m k v : Operand} {id kd i : Nat} {kv : Value} {x : AV} {ks : List Value} {R : List (List AV)} {K : St -> Prop}
  (ho : o.op = .mapUpdate t m k v) (hmn : (u6 s.env m).need) (hkn : (u6 s.env k).need) (hvn : (u6 s.env v).need) (hm : (u6 s.env m).st = .mp id) (hg : q0e s.hp id = some (.con (p8 P kt kd ks R (some i)) [x])) (ht : P.underlying t = some (.map kt e))
  (hK : Go.Maps.Keyed P kt) (hkv : z0j (u6 s.env k).st = some kv) (hki : ks[i]? = some kv)
  (hk : K (({ s with hp := q0o s.hp id (.con (p8 P kt kd ks R (some i)) [(u6 s.env v).st]) } : St).put o.dst (.v undef))) : opW P o s K := by
 intro hd C a w β h Q; obtain ⟨b, c, us, hmv, hb, ⟨es, clock, gs, h1, h2, h3, h4, h5, h6, h7, h8, h9⟩, hus⟩ := j4b h hmn hm hg; rcases h9 with ⟨h9, _⟩ | ⟨i', e0, h9, h10, h11, rfl⟩
 . cases h9
 simp only [Xa] at h9; subst h9; have hkv' := qz2 hkv (q1u h hkn); have hvv := q1u h hvn; have hkey : e0.key = kv := by
  rw [<- h2, Xc, h11] at hki
  simpa using hki
 obtain ⟨l, hl⟩ := h4 kv (Xj hki); have hfind : (Instr.findKey kt kv es.toList).run P w = .ok (some (i, e0.val)) w := by
  rcases hK.find w hl es.toList (fun e he => h4 _ (by rw [<- h2]; exact Xd he)) with ⟨_, f2⟩ | ⟨j, e1, f1, f2, f3⟩
  . exact absurd hkey (f2 e0 (Xj h11))
  .
   have hnd : (es.toList.map (·.key)).Nodup := by rw [h2]; exact h3
   have q1 : (es.toList.map (·.key))[j]? = some kv := by rw [Xc, f2]; simp [f3]
   have q2 : (es.toList.map (·.key))[i]? = some kv := by rw [Xc, h11]; simp [hkey]
   have hji : j = i := (Ya (Xb.1 q1).1 hnd).1 (q1.trans q2.symm); subst hji; rw [h11] at f2; cases f2; exact f1
 have hj : es[i]? = some e0 := by simpa using h11
 have hrun : (execOp a.eval o).run P w = .ok .skip { w with heap := w.heap.setIfInBounds b (.map (es.modify i fun e => { e with key := kv, val := a.eval v }) clock) } := by
  unfold execOp; simp only [ho, hmv, hkv']; simp [Instr.mapUpdate, run_underlying ht, MapKept.run_getObj_map h1, hK.check w false hl, hfind, hj, hkey, hK.stays w hl, MapKept.run_setObj_map _ h1, Result.andThen]
 unfold Oper.wp; rw [hrun]; have hget : ∀ j, (es.modify i fun e => { e with key := kv, val := a.eval v }).toList[j]? = if i = j then some { e0 with key := kv, val := a.eval v } else es.toList[j]? := fun j => by
  rw [Array.toList_modify, List.getElem?_modify]
  by_cases hij : i = j
  . subst hij; simp [h11]
  . simp [hij]
 have h12 := h.turnM (kt' := kt) (kd' := kd) (ks' := ks) (R' := R) (foc' := some i) (ex' := [(u6 s.env v).st]) (es' := es.modify i fun e => { e with key := kv, val := a.eval v }) (clock' := clock) hg hb h1 fun w' ow' hA hinn hw' => by
  refine ⟨[a.eval v], ⟨_, _, gs, hw', ?_, h3, h4, h5, h6, h7, fun j r e hr he hf => ?_, .inr ⟨i, { e0 with key := kv, val := a.eval v }, rfl, h10, by rw [hget, if_pos rfl], rfl⟩⟩, ?_⟩
  .
   refine Xo fun j => ?_; rw [Xc, hget]
   by_cases hij : i = j
   . subst hij; rw [if_pos rfl, hki]; rfl
   . rw [if_neg hij, <- h2, Xc]
  . have hne : i ≠ j := fun e => hf (by rw [e]); rw [hget, if_neg hne] at he; exact q54 hA (fun g hg' => hinn g (h7 j g hg').1) (h8 j r e hr he hf)
  . simp only [x9]; exact ⟨q4v hA _ _ (Xe _) (fun _ _ => rfl) _ _ hvv, trivial⟩
 exact ⟨_, _, h12.put (by simp only [rep]) hd, hk⟩
theorem zx9 {o : Oper} {cl : Call} {t kt kt' e : TypeId} {m k : Operand} {id kd i : Nat} {kv : Value} {x : AV} {ks : List Value} {R : List (List AV)} {K : St -> Prop}
  (ho : o.op = .call cl) (hcl : cl.callee = .builtin .delete) (hargs : cl.args.toList = [m, k]) (hts : cl.argTypes.toList = [t, kt']) (hmn : (u6 s.env m).need) (hkn : (u6 s.env k).need) (hm : (u6 s.env m).st = .mp id) (hg : q0e s.hp id = some (.con (p8 P kt kd ks R (some i)) [x])) (ht : P.underlying t = some (.map kt e))
  (hK : Go.Maps.Keyed P kt) (hkv : z0j (u6 s.env k).st = some kv) (hki : ks[i]? = some kv)
  (hk : K (({ s with hp := q0o s.hp id (.con (p8 P kt kd (ks.eraseIdx i) (R.eraseIdx i) none) []) } : St).put o.dst (.tup []))) : opW P o s K := by
 intro hd C a w β h Q; obtain ⟨b, c, us, hmv, hb, ⟨es, clock, gs, h1, h2, h3, h4, h5, h6, h7, h8, h9⟩, hus⟩ := j4b h hmn hm hg; rcases h9 with ⟨h9, _⟩ | ⟨i', e0, h9, h10, h11, rfl⟩
 . cases h9
 simp only [Xa] at h9; subst h9; have hkv' := qz2 hkv (q1u h hkn); have hkey : e0.key = kv := by
  rw [<- h2, Xc, h11] at hki
  simpa using hki
 obtain ⟨l, hl⟩ := h4 kv (Xj hki); have hfind : (Instr.findKey kt kv es.toList).run P w = .ok (some (i, e0.val)) w := by
  rcases hK.find w hl es.toList (fun e he => h4 _ (by rw [<- h2]; exact Xd he)) with ⟨_, f2⟩ | ⟨j, e1, f1, f2, f3⟩
  . exact absurd hkey (f2 e0 (Xj h11))
  .
   have hnd : (es.toList.map (·.key)).Nodup := by rw [h2]; exact h3
   have q1 : (es.toList.map (·.key))[j]? = some kv := by rw [Xc, f2]; simp [f3]
   have q2 : (es.toList.map (·.key))[i]? = some kv := by rw [Xc, h11]; simp [hkey]
   have hji : j = i := (Ya (Xb.1 q1).1 hnd).1 (q1.trans q2.symm); subst hji; rw [h11] at f2; cases f2; exact f1
 have his : i < es.size := by have := (Xb.1 h11).1; simpa using this
 have hsub : (es.eraseIdxIfInBounds i).toList = es.toList.eraseIdx i := by
  unfold Array.eraseIdxIfInBounds; rw [dif_pos his]; simp
 have e2 : cl.args = #[m, k] := Array.ext' hargs; have e3 : cl.argTypes = #[t, kt'] := Array.ext' hts; have hrun : (execOp a.eval o).run P w = .ok (.value (.tuple #[])) { w with heap := w.heap.setIfInBounds b (.map (es.eraseIdxIfInBounds i) clock) } := by
  unfold execOp; simp only [ho]; simp [resolve, hcl, e2, e3, invoke, builtin, hmv, hkv', Builtin.delete_, run_underlying ht, MapKept.run_getObj_map h1, hK.check w _ hl, hfind, MapKept.run_setObj_map _ h1, Result.andThen]
 unfold Oper.wp; rw [hrun]; have hil : i < R.length := by rw [h5]; exact (Xb.1 hki).1
 have h12 := h.turnM (kt' := kt) (kd' := kd) (ks' := ks.eraseIdx i) (R' := R.eraseIdx i) (foc' := none) (ex' := []) (es' := es.eraseIdxIfInBounds i) (clock' := clock) hg hb h1 fun w' ow' hA hinn hw' => by
  refine ⟨[], ⟨_, _, fun j => gs (if j < i then j else j + 1), hw', ?_, ?_, fun x hx => h4 x (List.mem_of_mem_eraseIdx hx), ?_, fun j j' g q1 q2 => ?_, fun j g q1 => ⟨(h7 _ g q1).1, ?_⟩, fun j r e hr he _ => ?_, .inl ⟨rfl, rfl⟩⟩, by simp only [x9]⟩
  .
   rw [hsub, <- h2]; refine Xo fun j => ?_; rw [Xc, Xf, Xf]
   split <;> rw [Xc]
  . exact h3.sublist (List.eraseIdx_sublist _ _)
  . rw [Xs, Xs, h5]
  .
   have := h6 _ _ g q1 q2
   split at this <;> split at this <;> omega
  .
   have q2 := (h7 _ g q1).2; rw [Xs, if_pos hil]
   by_cases hj : j < i
   . omega
   . rw [if_neg hj] at q2; omega
  .
   rw [hsub] at he; rw [Xf] at hr he
   by_cases hj : j < i
   .
    rw [if_pos hj] at hr he
    show z2k kd w' ow' (gs (if j < i then j else j + 1)) r e.val
    rw [if_pos hj]; exact q54 hA (fun g hg' => hinn g (h7 j g hg').1) (h8 j r e hr he (fun e => by simp at e; omega))
   .
    rw [if_neg hj] at hr he
    show z2k kd w' ow' (gs (if j < i then j else j + 1)) r e.val
    rw [if_neg hj]; exact q54 hA (fun g hg' => hinn g (h7 _ g hg').1) (h8 _ r e hr he (fun e => by simp at e; omega))
 exact ⟨_, _, h12.put (by simp only [rep]; exact ⟨[], rfl, by simp only [x9]⟩) hd, hk⟩
theorem zq9 {o : Oper} {t kt e : TypeId} (kd : Nat) {K : St -> Prop} (ho : o.op = .makeMap t none) (ht : P.underlying t = some (.map kt e))
  (hk : K (({ s with hp := (s.nx, .con (p8 P kt kd [] [] none) []) :: s.hp, nx := s.nx + 1 } : St).put o.dst (.mp s.nx))) : opW P o s K := by
 intro hd C a w β h Q; have hrun : (execOp a.eval o).run P w = .ok (.value (.map (some w.heap.size))) (w.alloc (.map #[] 0)) := by
  unfold execOp; simp only [ho]; simp [Instr.makeMap]
 unfold Oper.wp; rw [hrun]; have hup : ∀ q, q < s.nx -> ∀ b, bof (upd β s.nx (some (w.heap.size, 0))) q b -> bof β q b := fun q hq b hb => (qz9 hq).1 hb; have hnew : ∀ b, bof (upd β s.nx (some (w.heap.size, 0))) s.nx b -> b = w.heap.size := fun b hb => by
  obtain ⟨c, hc⟩ := z05 hb; simp only [Xa, Xm] at hc; exact hc.1.symm
 have hhs : (w.alloc (.map #[] 0)).heap.size = w.heap.size + 1 := by show (w.heap.push (.map #[] 0)).size = _; exact Array.size_push ..
 have hha : ∀ b, b < w.heap.size -> (w.alloc (.map #[] 0)).heap[b]? = w.heap[b]? := fun b hb => by show (w.heap.push (.map #[] 0))[b]? = _; rw [X5, if_neg (by omega)]
 have h2 : Rel C { s with hp := (s.nx, .con (p8 P kt kd [] [] none) []) :: s.hp, nx := s.nx + 1 } a (w.alloc (.map #[] 0)) (upd β s.nx (some (w.heap.size, 0))) := by
  refine h.tellW (X0 _) (fun q hq => q2j _ _ _ _ hq) (fun q hq _ => q56 _ _ _ _ hq) ?_ ?_ ?_ (by omega) (fun b hb _ => hha b hb) ?_ ?_ ?_ ?_ ?_ rfl rfl ⟨rfl, fun _ => Xe _⟩
  .
   intro p hp; rcases Xg.1 hp with rfl | hp
   . exact .inr (Xe _)
   . exact .inl (Xd hp)
  .
   intro p hp; rcases Xg.1 hp with rfl | hp
   . exact Xr _
   . exact Nat.lt_succ_of_lt (h.hp.lt p hp)
  . simp only [X4, Xy]; refine ⟨fun hx => ?_, h.hp.nd⟩; obtain ⟨q, hq, he⟩ := Xp.1 hx; have := h.hp.lt q hq; omega
  .
   intro p hp b hb; rcases Xg.1 hp with rfl | hp
   . rw [hnew b hb]; exact ⟨by omega, .inr (Xe _)⟩
   . have := hup _ (h.hp.lt p hp) b hb; exact ⟨by have := h.hp.bofLt p hp b this; omega, .inl ⟨p, hp, this⟩⟩
  .
   intro p hp q hq b h1 h2; rcases Xg.1 hp with rfl | hp <;> rcases Xg.1 hq with rfl | hq
   . rfl
   . have := hnew b h1; have := h.hp.bofLt q hq b (hup _ (h.hp.lt q hq) b h2); omega
   . have := hnew b h2; have := h.hp.bofLt p hp b (hup _ (h.hp.lt p hp) b h1); omega
   . exact h.hp.bofInj p hp q hq b (hup _ (h.hp.lt p hp) b h1) (hup _ (h.hp.lt q hq) b h2)
  .
   intro p hp b hb c hc; rcases Xg.1 hp with rfl | hp
   . rw [q8r] at hb; cases hb
   . rw [q56 _ _ _ _ (h.hp.lt p hp)] at hb; rw [q2j _ _ _ _ (h.hp.lt p hp)] at hc; exact (h.hp.ib p hp b hb).2.2.1 p hp c hc
  .
   intro p hp hc; rcases Xg.1 hp with rfl | hp
   . exact q8r _ _ _
   . rw [q56 _ _ _ _ (h.hp.lt p hp)]; exact h.hp.i0 p hp hc
  .
   intro hA p hp; rcases Xg.1 hp with rfl | hp
   . refine .inl ⟨w.heap.size, 0, [], q1a _ _ _, by omega, ⟨#[], 0, fun _ => none, by show (w.heap.push (.map #[] 0))[w.heap.size]? = _; rw [X5, if_pos rfl], rfl, List.nodup_nil, by simp, rfl, (fun _ _ _ hx => by cases hx), (fun _ _ hx => by cases hx), by simp, .inl ⟨rfl, rfl⟩⟩, by simp only [x9]⟩
   . exact q3m hA (X0 _) (fun q hq => q2j _ _ _ _ hq) (h.hp.lt p hp) (fun b hb => hha b (h.hp.bofLt p hp b hb)) (fun _ => q56 _ _ _ _ (h.hp.lt p hp)) (h.hp.obj p hp)
 refine ⟨_, _, h2.put ?_ hd, hk⟩; simp only [rep]; exact ⟨Xr _, w.heap.size, 0, q1a _ _ _, rfl⟩
theorem qy8 {o : Oper} {t kt e : TypeId} {m k v : Operand} {id kd : Nat} {kv : Value} {ks : List Value} {R : List (List AV)} {K : St -> Prop} (row : List AV)
  (hk : K (({ s with hp := q0o s.hp id (.con (p8 P kt kd (ks ++ [kv]) (R ++ [row]) (some ks.length)) [(u6 s.env v).st]) } : St).put o.dst (.v undef)))
  (ho : o.op = .mapUpdate t m k v) (hmn : (u6 s.env m).need) (hkn : (u6 s.env k).need) (hvn : (u6 s.env v).need) (hm : (u6 s.env m).st = .mp id) (hg : q0e s.hp id = some (.con (p8 P kt kd ks R none) [])) (ht : P.underlying t = some (.map kt e))
  (hK : Go.Maps.Keyed P kt) (hkv : z0j (u6 s.env k).st = some kv) (hl : ∃ l, keyOf P kt kv = some l) (hni : kv ∉ ks) : opS P o s K := by
 refine ⟨_, s.nx, _, hk, fun env' hev K' hk' => ?_⟩; have em : u6 env' m = u6 s.env m := hev m (by rw [ho]; simp [Op.operands]); have ek : u6 env' k = u6 s.env k := hev k (by rw [ho]; simp [Op.operands]); have ev : u6 env' v = u6 s.env v := hev v (by rw [ho]; simp [Op.operands]); exact zx8 (s := { s with env := env' }) row ho (by rw [em]; exact hmn) (by rw [ek]; exact hkn) (by rw [ev]; exact hvn) (by rw [em]; exact hm) hg ht hK (by rw [ek]; exact hkv) hl hni (by rw [ev]; exact hk')
theorem z2z {o : Oper} {t kt e : TypeId} {m k v : Operand} {id kd i : Nat} {kv : Value} {x : AV} {ks : List Value} {R : List (List AV)} {K : St -> Prop}
  (hk : K (({ s with hp := q0o s.hp id (.con (p8 P kt kd ks R (some i)) [(u6 s.env v).st]) } : St).put o.dst (.v undef)))
  (ho : o.op = .mapUpdate t m k v) (hmn : (u6 s.env m).need) (hkn : (u6 s.env k).need) (hvn : (u6 s.env v).need) (hm : (u6 s.env m).st = .mp id) (hg : q0e s.hp id = some (.con (p8 P kt kd ks R (some i)) [x])) (ht : P.underlying t = some (.map kt e))
  (hK : Go.Maps.Keyed P kt) (hkv : z0j (u6 s.env k).st = some kv) (hki : ks[i]? = some kv) : opS P o s K := by
 refine ⟨_, s.nx, _, hk, fun env' hev K' hk' => ?_⟩; have em : u6 env' m = u6 s.env m := hev m (by rw [ho]; simp [Op.operands]); have ek : u6 env' k = u6 s.env k := hev k (by rw [ho]; simp [Op.operands]); have ev : u6 env' v = u6 s.env v := hev v (by rw [ho]; simp [Op.operands]); exact zx7 (s := { s with env := env' }) ho (by rw [em]; exact hmn) (by rw [ek]; exact hkn) (by rw [ev]; exact hvn) (by rw [em]; exact hm) hg ht hK (by rw [ek]; exact hkv) hki (by rw [ev]; exact hk')
theorem zy0 {o : Oper} {cl : Call} {t kt kt' e : TypeId} {m k : Operand} {id kd i : Nat} {kv : Value} {x : AV} {ks : List Value} {R : List (List AV)} {K : St -> Prop}
  (hk : K (({ s with hp := q0o s.hp id (.con (p8 P kt kd (ks.eraseIdx i) (R.eraseIdx i) none) []) } : St).put o.dst (.tup [])))
  (ho : o.op = .call cl) (hcl : cl.callee = .builtin .delete) (hargs : cl.args.toList = [m, k]) (hts : cl.argTypes.toList = [t, kt']) (hmn : (u6 s.env m).need) (hkn : (u6 s.env k).need) (hm : (u6 s.env m).st = .mp id) (hg : q0e s.hp id = some (.con (p8 P kt kd ks R (some i)) [x])) (ht : P.underlying t = some (.map kt e))
  (hK : Go.Maps.Keyed P kt) (hkv : z0j (u6 s.env k).st = some kv) (hki : ks[i]? = some kv) : opS P o s K := by
 refine ⟨_, s.nx, _, hk, fun env' hev K' hk' => ?_⟩; have em : u6 env' m = u6 s.env m := hev m (by rw [ho]; simp only [Op.operands, Call.operands]; exact Yb.2 (.inr (X1.1 (by rw [hargs]; simp)))); have ek : u6 env' k = u6 s.env k := hev k (by rw [ho]; simp only [Op.operands, Call.operands]; exact Yb.2 (.inr (X1.1 (by rw [hargs]; simp)))); exact zx9 (s := { s with env := env' }) ho hcl hargs hts (by rw [em]; exact hmn) (by rw [ek]; exact hkn) (by rw [em]; exact hm) hg ht hK (by rw [ek]; exact hkv) hki hk'
theorem z1q {o : Oper} {t kt e : TypeId} (kd : Nat) {K : St -> Prop} (hk : K (({ s with hp := (s.nx, .con (p8 P kt kd [] [] none) []) :: s.hp, nx := s.nx + 1 } : St).put o.dst (.mp s.nx))) (ho : o.op = .makeMap t none) (ht : P.underlying t = some (.map kt e)) : opS P o s K :=
 ⟨_, _, _, hk, fun env' _ _ hk' => zq9 (s := { s with env := env' }) kd ho ht hk'⟩
end
end
section
open Go Go.RowKit
section
variable {P : Program} {C : Ctx P} {s : St} {a : Act} {w : World} {β : Ghost}
theorem Rel.splitC (h : Rel C s a w β) {id : Nat} {K K' : Con} {ex ex' : List AV} {o2 : AObj} (gi : Option (Nat × Nat)) (hg : q0e s.hp id = some (.con K ex)) (ho2 : q94 o2 = false) (hginn : ∀ g c', gi = some (g, c') -> g ∈ β.inn id)
  (hobj : ∀ (β' : Ghost) (ow' : Nat -> Prop), Agree w w (own β s.hp C.A) ow' -> (∀ x, x < s.nx -> β' x = β x) -> β' s.nx = gi -> (∀ g, g ∈ β.inn id -> (∀ c', gi ≠ some (g, c')) -> g ∈ β'.inn id) -> q5f w β' (s.nx + 1) ow' s.nx o2 /\ q5f w β' (s.nx + 1) ow' id (.con K' ex')) :
  ∃ β', Rel C { s with hp := (s.nx, o2) :: q0o s.hp id (.con K' ex'), nx := s.nx + 1 } a w β' := by
 have hm := q0g hg; have hidlt : id < s.nx := h.hp.lt _ hm
 let ng : Nat -> Bool := fun x => !(gi.map (·.1) == some x)
 have hng : ∀ x, ng x = true ↔ ∀ c', gi ≠ some (x, c') := fun x => by
  simp only [ng, Bool.not_eq_true', beq_eq_false_iff_ne, ne_eq]
  cases gi with
  | none => simp
  | some q => simp only [Xn, Xa]; exact ⟨fun hx c' hc => hx (by rw [hc]), fun hx hc => hx q.2 (by rw [<- hc])⟩
 let β' : Ghost := ⟨fun x => if x = s.nx then gi else β x, fun x => if x = s.nx then [] else if x = id then (β.inn id).filter ng else β.inn x⟩
 have hfn : β' s.nx = gi := by simp [β']
 have hfo : ∀ x, x < s.nx -> β' x = β x := fun x hx => by simp [β']; omega
 have hin1 : β'.inn s.nx = [] := by simp [β']
 have hin2 : β'.inn id = (β.inn id).filter ng := by simp [β']; omega
 have hin3 : ∀ x, x < s.nx -> x ≠ id -> β'.inn x = β.inn x := fun x hx hne => by simp [β', hne]; omega
 have hsub : ∀ x, x < s.nx -> ∀ b1, b1 ∈ β'.inn x -> b1 ∈ β.inn x := fun x hx b1 hb1 => by
  by_cases hxi : x = id
  . subst hxi; rw [hin2] at hb1; exact (Xz.1 hb1).1
  . rw [hin3 x hx hxi] at hb1; exact hb1
 have hbo : ∀ x, x < s.nx -> ∀ b1, bof β' x b1 -> bof β x b1 := fun x hx b1 hb1 => by
  rcases hb1 with ⟨C', hc⟩ | hb1
  . exact .inl ⟨C', (hfo x hx).symm.trans hc⟩
  . exact .inr (hsub x hx b1 hb1)
 have hbn : ∀ b1, bof β' s.nx b1 -> ∃ c', gi = some (b1, c') := fun b1 hb1 => by
  rcases hb1 with ⟨C', hc⟩ | hb1
  . exact ⟨C', hfn.symm.trans hc⟩
  . rw [hin1] at hb1; cases hb1
 have hmem : ∀ p ∈ (s.nx, o2) :: q0o s.hp id (.con K' ex'), p = (s.nx, o2) \/ p = (id, .con K' ex') \/ (p ∈ s.hp /\ p.1 ≠ id) := fun p hp => by
  rcases Xg.1 hp with hp | hp
  . exact .inl hp
  . exact .inr (qh4 h.hp.nd hp)
 have hltp : ∀ p ∈ (s.nx, o2) :: q0o s.hp id (.con K' ex'), p.1 = s.nx \/ p.1 < s.nx := fun p hp => by
  rcases hmem p hp with rfl | rfl | ⟨hp, _⟩
  . exact .inl rfl
  . exact .inr hidlt
  . exact .inr (h.hp.lt p hp)
 have hold : ∀ p ∈ (s.nx, o2) :: q0o s.hp id (.con K' ex'), p.1 < s.nx -> ∃ q ∈ s.hp, q.1 = p.1 := fun p hp hpl => by
  rcases hmem p hp with rfl | rfl | ⟨hp, _⟩
  . exact absurd hpl (Nat.lt_irrefl _)
  . exact ⟨_, hm, rfl⟩
  . exact ⟨p, hp, rfl⟩
 have hmix : ∀ q ∈ (s.nx, o2) :: q0o s.hp id (.con K' ex'), q.1 < s.nx -> ∀ b1, bof β' s.nx b1 -> bof β' q.1 b1 -> False := fun q hq hql b1 hb1 hb2 => by
  obtain ⟨c', hc⟩ := hbn b1 hb1; obtain ⟨q', hq', hqe⟩ := hold q hq hql; have h9 := hbo q.1 hql b1 hb2; have h10 := h.hp.bofInj _ hm q' hq' b1 (.inr (hginn b1 c' hc)) (by rw [hqe]; exact h9); simp only at h10; rw [hqe] at h10; rw [<- h10] at hb2; rcases hb2 with ⟨C', hc2⟩ | hb2
  . rw [hfo id hidlt] at hc2; exact (h.hp.ib _ hm b1 (hginn b1 c' hc)).2.2.1 _ hm C' hc2
  . rw [hin2] at hb2; exact (hng b1).1 (Xz.1 hb2).2 c' hc
 refine ⟨β', h.tell (X0 _) hfo (fun x hx hni => hin3 x hx fun e => hni (by rw [e]; exact Xd hm)) ?_ ?_ ?_ ?_ ?_ ?_ ?_ ?_⟩
 .
  intro p hp; rcases hltp p hp with he | hl
  . exact .inr (Nat.le_of_eq he.symm)
  . obtain ⟨q, hq, he⟩ := hold p hp hl; exact .inl (he ▸ Xd hq)
 . intro p hp; rcases hltp p hp with he | hl <;> omega
 . simp only [X4, Xy, q93]; refine ⟨fun hx => ?_, h.hp.nd⟩; obtain ⟨q, hq, he⟩ := Xp.1 hx; have := h.hp.lt q hq; omega
 .
  intro p hp b1 hb1; rcases hltp p hp with he | hl
  . rw [he] at hb1; obtain ⟨c', hc⟩ := hbn b1 hb1; exact ⟨_, hm, .inr (hginn b1 c' hc)⟩
  . obtain ⟨q, hq, he⟩ := hold p hp hl; exact ⟨q, hq, by rw [he]; exact hbo _ hl _ hb1⟩
 .
  intro p hp q hq b1 hb1 hb2; rcases hltp p hp with he | hl <;> rcases hltp q hq with he' | hl'
  . rw [he, he']
  . rw [he] at hb1; exact (hmix q hq hl' b1 hb1 hb2).elim
  . rw [he'] at hb2; exact (hmix p hp hl b1 hb2 hb1).elim
  . obtain ⟨p', hp', hpe⟩ := hold p hp hl; obtain ⟨q', hq', hqe⟩ := hold q hq hl'; have := h.hp.bofInj p' hp' q' hq' b1 (by rw [hpe]; exact hbo _ hl _ hb1) (by rw [hqe]; exact hbo _ hl' _ hb2); rw [<- hpe, <- hqe]; exact this
 .
  intro p hp b1 hb1 C' hc; rcases hltp p hp with he | hl
  . rw [he, hin1] at hb1; cases hb1
  . obtain ⟨q, hq, he⟩ := hold p hp hl; rw [hfo _ hl, <- he] at hc; exact (h.hp.ib q hq b1 (by rw [he]; exact hsub _ hl _ hb1)).2.2.1 q hq C' hc
 .
  intro p hp hc; rcases hmem p hp with rfl | rfl | ⟨hp, hne⟩
  . exact hin1
  . cases hc
  . rw [hin3 _ (h.hp.lt p hp) hne]; exact h.hp.i0 p hp hc
 .
  intro hA p hp; obtain ⟨q1, q2⟩ := hobj β' _ hA hfo hfn (fun g hg1 hg2 => by rw [hin2]; exact Xz.2 ⟨hg1, (hng g).2 hg2⟩); rcases hmem p hp with rfl | rfl | ⟨hp, hne⟩
  . exact q1
  . exact q2
  . exact q3m hA (X0 _) hfo (h.hp.lt p hp) (fun _ _ => rfl) (fun _ => hin3 _ (h.hp.lt p hp) hne) (h.hp.obj p hp)
theorem Rel.mergeC (h : Rel C s a w β) {id id2 : Nat} {K K' : Con} {ex ex' : List AV} {o2 : AObj} (hg : q0e s.hp id = some (.con K ex)) (hg2 : q0e s.hp id2 = some o2) (ho2 : q94 o2 = false)
  (hobj : ∀ (β' : Ghost) (ow' : Nat -> Prop), Agree w w (own β s.hp C.A) ow' -> (∀ x, β' x = β x) -> (∀ g c', β id2 = some (g, c') -> g ∈ β'.inn id) -> (∀ g, g ∈ β.inn id -> g ∈ β'.inn id) -> q5f w β' s.nx ow' id (.con K' ex')) :
  ∃ β', Rel C { s with hp := q0o (q41 s.hp id2) id (.con K' ex') } a w β' := by
 have hm := q0g hg; have hm2 := q0g hg2; have hne := z5p hg hg2 rfl ho2; have hidlt : id < s.nx := h.hp.lt _ hm; have hnd2 : ((q41 s.hp id2).map (·.1)).Nodup := (sub_delO.map _).nodup h.hp.nd
 let gi : Option Nat := (β id2).map (·.1)
 have hgi : ∀ g, gi = some g -> bof β id2 g := fun g hx => by
  simp only [gi] at hx
  cases hq : β id2 with
  | none => rw [hq] at hx; cases hx
  | some q => rw [hq] at hx; simp only [Xn, Xa] at hx; exact .inl ⟨q.2, by rw [hq, <- hx]⟩
 let β' : Ghost := ⟨β.f, fun x => if x = id then gi.toList ++ β.inn id else β.inn x⟩
 have hin2 : β'.inn id = gi.toList ++ β.inn id := by simp [β']
 have hin3 : ∀ x, x ≠ id -> β'.inn x = β.inn x := fun x hx => by simp [β', hx]
 have hmem : ∀ p ∈ q0o (q41 s.hp id2) id (.con K' ex'), p = (id, .con K' ex') \/ (p ∈ s.hp /\ p.1 ≠ id /\ p.1 ≠ id2) := fun p hp => by
  rcases qh4 hnd2 hp with hp | ⟨hp, hx⟩
  . exact .inl hp
  . have := qt7.1 hp; exact .inr ⟨this.1, hx, this.2⟩
 have hbo : ∀ p ∈ q0o (q41 s.hp id2) id (.con K' ex'), ∀ b1, bof β' p.1 b1 -> (∃ q ∈ s.hp, q.1 = p.1 /\ bof β q.1 b1) \/ (p.1 = id /\ bof β id2 b1) := fun p hp b1 hb1 => by
  rcases hmem p hp with rfl | ⟨hp, hx, hx2⟩
  .
   rcases hb1 with ⟨C', hc⟩ | hb1
   . exact .inl ⟨_, hm, rfl, .inl ⟨C', hc⟩⟩
   .
    simp only at hb1; rw [hin2] at hb1; rcases Xx.1 hb1 with hb1 | hb1
    . exact .inr ⟨rfl, hgi b1 (by simpa using hb1)⟩
    . exact .inl ⟨_, hm, rfl, .inr hb1⟩
  .
   rcases hb1 with ⟨C', hc⟩ | hb1
   . exact .inl ⟨p, hp, rfl, .inl ⟨C', hc⟩⟩
   . rw [hin3 _ hx] at hb1; exact .inl ⟨p, hp, rfl, .inr hb1⟩
 have hno2 : ∀ p ∈ q0o (q41 s.hp id2) id (.con K' ex'), p.1 ≠ id2 := fun p hp => by
  rcases hmem p hp with rfl | ⟨_, _, hx2⟩
  . exact hne
  . exact hx2
 refine ⟨β', h.tell (Xe _) (fun _ _ => rfl) (fun x hx hni => hin3 x fun e => hni (by rw [e]; exact Xd hm)) ?_ ?_ ?_ ?_ ?_ ?_ ?_ ?_⟩
 .
  intro p hp; rcases hmem p hp with rfl | ⟨hp, _⟩
  . exact .inl (Xp.2 ⟨_, hm, rfl⟩)
  . exact .inl (Xd hp)
 .
  intro p hp; rcases hmem p hp with rfl | ⟨hp, _⟩
  . exact hidlt
  . exact h.hp.lt p hp
 . rw [q93]; exact hnd2
 .
  intro p hp b1 hb1; rcases hbo p hp b1 hb1 with ⟨q, hq, _, hqb⟩ | ⟨_, hb2⟩
  . exact ⟨q, hq, hqb⟩
  . exact ⟨_, hm2, hb2⟩
 .
  intro p hp q hq b1 hb1 hb2; rcases hbo p hp b1 hb1 with ⟨p', hp', he, hpb⟩ | ⟨he, hpb⟩ <;> rcases hbo q hq b1 hb2 with ⟨q', hq', he', hqb⟩ | ⟨he', hqb⟩
  . rw [<- he, <- he']; exact h.hp.bofInj p' hp' q' hq' b1 hpb hqb
  . have := h.hp.bofInj p' hp' _ hm2 b1 hpb hqb; simp only at this; rw [he] at this; exact absurd this (hno2 p hp)
  . have := h.hp.bofInj q' hq' _ hm2 b1 hqb hpb; simp only at this; rw [he'] at this; exact absurd this (hno2 q hq)
  . rw [he, he']
 .
  intro p hp b1 hb1 C' hc; have hc : β p.1 = some (b1, C') := hc; rcases hmem p hp with rfl | ⟨hp, hx, _⟩
  .
   simp only at hb1 hc; rw [hin2] at hb1; rcases Xx.1 hb1 with hb1 | hb1
   . have := h.hp.bofInj _ hm _ hm2 b1 (.inl ⟨C', hc⟩) (hgi b1 (by simpa using hb1)); exact hne this
   . exact (h.hp.ib _ hm b1 hb1).2.2.1 _ hm C' hc
  . rw [hin3 _ hx] at hb1; exact (h.hp.ib p hp b1 hb1).2.2.1 p hp C' hc
 .
  intro p hp hc; rcases hmem p hp with rfl | ⟨hp, hx, _⟩
  . cases hc
  . rw [hin3 _ hx]; exact h.hp.i0 p hp hc
 .
  intro hA p hp'; rcases hmem p hp' with rfl | ⟨hp', hx, _⟩
  . exact hobj β' _ hA (fun _ => rfl) (fun g c' hgc => by rw [hin2]; exact List.mem_append_left _ (by simp [gi, hgc])) (fun g hg1 => by rw [hin2]; exact List.mem_append_right _ hg1)
  . exact q3m (β := β) (β' := β') hA (Xe _) (fun _ _ => rfl) (h.hp.lt p hp') (fun _ _ => rfl) (fun _ => hin3 _ hx) (h.hp.obj p hp')
end
end
section
open Go Go.RowKit
section
variable {P : Program} {C : Ctx P} {s : St} {a : Act} {w : World} {β : Ghost}
theorem z0h (h : Rel C s a w β) {id kd : Nat} {kt : TypeId} {ks : List Value} {R : List (List AV)} {foc : Option Nat} {ex : List AV} (hg : q0e s.hp id = some (.con (p8 P kt kd ks R foc) ex)) :
  ∃ b c us, β id = some (b, c) /\ b < w.heap.size /\ zz4 (fun v => ∃ l, keyOf P kt v = some l) kd ks R foc w b (β.inn id) (own β s.hp C.A) us /\ x9 w β s.nx (own β s.hp C.A) ex us := by
 rcases h.hp.obj _ (q0g hg) with ⟨b', c', us, h5, hlt, hP, hus⟩ | ⟨_, hN, _⟩
 . exact ⟨b', c', us, h5, hlt, hP, hus⟩
 . exact hN.elim
theorem Rel.openM0 (h : Rel C s a w β) {id : Nat} {kt : TypeId} {ks : List Value} {R : List (List AV)} {i : Nat} {r : List AV} (hg : q0e s.hp id = some (.con (p8 P kt 0 ks R none) [])) (hr : R[i]? = some r) :
  ∃ β', Rel C { s with hp := (s.nx, .box r) :: q0o s.hp id (.con (p8 P kt 0 ks R (some i)) [.ptr s.nx 0]), nx := s.nx + 1 } a w β' := by
 obtain ⟨b, c, us, hb, hlt, ⟨es, clock, gs, h1, h2, h3, h4, h5, h6, h7, h8, h9⟩, hus⟩ := z0h h hg; have hidlt : id < s.nx := h.hp.lt _ (q0g hg); have hi : i < R.length := (Xb.1 hr).1; have hel : es.toList.length = ks.length := by rw [<- h2, Xl]
 have hil : i < es.toList.length := by omega
 have he := Xq hil; obtain ⟨b2, cs, e', g1, g2, g3, g4, g5⟩ := h8 i r _ hr he (by simp); refine h.splitC (o2 := .box r) (K' := p8 P kt 0 ks R (some i)) (ex' := [.ptr s.nx 0]) (some (b2, 0)) hg rfl (fun g c' hx => ?_) fun β' ow' hA hbo hbn hin => ⟨?_, ?_⟩
 . simp only [Xa, Xm] at hx; rw [<- hx.1]; exact (h7 i b2 g1).1
 . refine ⟨b2, 0, ⟨cs⟩, e', hbn, g3, z7z g4.symm fun k av u q1 q2 => ?_⟩; exact q4v hA 0 _ (Nat.zero_le _) (fun _ hx => absurd hx (Nat.not_lt_zero _)) _ _ (g5 k av u q1 q2)
 .
  refine .inl ⟨b, c, [es.toList[i].val], (hbo id hidlt).trans hb, hlt, ⟨es, clock, fun x => if x = i then none else gs x, h1, h2, h3, h4, h5, fun x x' g q1 q2 => ?_, fun x g q1 => ?_, fun x r' e q1 q2 q3 => ?_, .inr ⟨i, _, rfl, by simp, he, rfl⟩⟩, ?_⟩
  .
   by_cases hx : x = i <;> by_cases hx' : x' = i <;> simp only [hx, hx', if_true, if_false] at q1 q2
   . cases q1
   . cases q1
   . cases q2
   . exact h6 x x' g q1 q2
  .
   by_cases hx : x = i <;> simp only [hx, if_true, if_false] at q1
   . cases q1
   . refine ⟨hin g (h7 x g q1).1 fun c' hc => ?_, (h7 x g q1).2⟩; simp only [Xa, Xm] at hc; exact hx (h6 x i g q1 (by rw [g1, hc.1]))
  . have hx : x ≠ i := fun e => q3 (by rw [e]); simp only [hx, if_false]; exact q54 hA (fun _ _ => rfl) (h8 x r' e q1 q2 (by simp))
  . simp only [x9, rep]; exact ⟨⟨Xr _, b2, 0, hbn, g2⟩, trivial⟩
theorem Rel.openM1 (h : Rel C s a w β) {id isz : Nat} {kt : TypeId} {ks : List Value} {R xs : List (List AV)} {i : Nat} (hg : q0e s.hp id = some (.con (p8 P kt 1 ks R none) [])) (hr : R[i]? = some [.sl isz xs]) :
  ∃ β', Rel C { s with hp := (s.nx, .arr isz xs) :: q0o s.hp id (.con (p8 P kt 1 ks R (some i)) [.osl s.nx isz 0 xs.length]), nx := s.nx + 1 } a w β' := by
 obtain ⟨b, c, us, hb, hlt, ⟨es, clock, gs, h1, h2, h3, h4, h5, h6, h7, h8, h9⟩, hus⟩ := z0h h hg; have hidlt : id < s.nx := h.hp.lt _ (q0g hg); have hi : i < R.length := (Xb.1 hr).1; have hel : es.toList.length = ks.length := by rw [<- h2, Xl]
 have hil : i < es.toList.length := by omega
 have he := Xq hil; obtain ⟨av0, e1, isz', xs', e2, hin0⟩ := h8 i _ _ hr he (by simp); simp only [List.cons.injEq, and_true] at e1; subst e1; simp only [AV.sl.injEq] at e2; obtain ⟨rfl, rfl⟩ := e2; obtain ⟨gi, hgs, hgi⟩ : ∃ gi : Option (Nat × Nat), gi.map (·.1) = gs i /\ ((gi = none /\ xs = [] /\ es.toList[i].val = .slice none 0 0) \/ ∃ g c' cap cur e', gi = some (g, c') /\ es.toList[i].val = .slice (some ⟨g, 0, none⟩) xs.length cap /\ w.heap[g]? = some (.cells cur e' (0, 0)) /\ cur.size = c' * isz /\ xs.length <= cap /\ cap <= c' /\ c' <= maxLen /\ q0j w noG (own β s.hp C.A) isz g xs 0) := by
  rcases hin0 with ⟨g1, g2, g3⟩ | ⟨g, c', cap, cur, e', g1, g2⟩
  . exact ⟨none, by simp [g1], .inl ⟨rfl, g2, g3⟩⟩
  . exact ⟨some (g, c'), by simp [g1], .inr ⟨g, c', cap, cur, e', rfl, g2⟩⟩
 refine h.splitC (o2 := .arr isz xs) (K' := p8 P kt 1 ks R (some i)) (ex' := [.osl s.nx isz 0 xs.length]) gi hg rfl (fun g c' hx => (h7 i g (by rw [<- hgs, hx]; rfl)).1) fun β' ow' hA hbo hbn hin => ⟨?_, ?_⟩
 .
  rcases hgi with ⟨g1, g2, g3⟩ | ⟨g, c', cap, cur, e', g1, g2, g3, g4, g5, g6, g7, g8⟩
  . exact .inl ⟨by rw [hbn]; exact g1, g2⟩
  . exact .inr ⟨g, c', cur, e', by rw [hbn]; exact g1, g3, g4, by omega, g7, q1r hA isz g (fun _ _ hu => hu) xs 0 g8⟩
 .
  refine .inl ⟨b, c, [es.toList[i].val], (hbo id hidlt).trans hb, hlt, ⟨es, clock, fun x => if x = i then none else gs x, h1, h2, h3, h4, h5, fun x x' g q1 q2 => ?_, fun x g q1 => ?_, fun x r' e q1 q2 q3 => ?_, .inr ⟨i, _, rfl, by simp, he, rfl⟩⟩, ?_⟩
  .
   by_cases hx : x = i <;> by_cases hx' : x' = i <;> simp only [hx, hx', if_true, if_false] at q1 q2
   . cases q1
   . cases q1
   . cases q2
   . exact h6 x x' g q1 q2
  .
   by_cases hx : x = i <;> simp only [hx, if_true, if_false] at q1
   . cases q1
   . exact ⟨hin g (h7 x g q1).1 fun c' hc => hx (h6 x i g q1 (by rw [<- hgs, hc]; rfl)), (h7 x g q1).2⟩
  . have hx : x ≠ i := fun e => q3 (by rw [e]); simp only [hx, if_false]; exact q54 hA (fun _ _ => rfl) (h8 x r' e q1 q2 (by simp))
  .
   simp only [x9, rep]; refine ⟨⟨Xr _, ?_⟩, trivial⟩; rcases hgi with ⟨g1, g2, g3⟩ | ⟨g, c', cap, cur, e', g1, g2, g3, g4, g5, g6, g7, g8⟩
   . exact .inl ⟨by rw [hbn]; exact g1, by trivial, by rw [g2]; rfl, g3⟩
   . exact .inr ⟨g, c', cap, ⟨g, 0, none⟩, by rw [hbn]; exact g1, g2, g5, by omega, .inl (by simp)⟩
theorem Rel.openM2 (h : Rel C s a w β) {id : Nat} {kt : TypeId} {ks : List Value} {R : List (List AV)} {i : Nat} {x : AV} (hg : q0e s.hp id = some (.con (p8 P kt 2 ks R none) [])) (hr : R[i]? = some [x]) :
  ∃ β', Rel C { s with hp := q0o s.hp id (.con (p8 P kt 2 ks R (some i)) [x]) } a w β' := by
 obtain ⟨b, c, us, hb, hlt, ⟨es, clock, gs, h1, h2, h3, h4, h5, h6, h7, h8, h9⟩, hus⟩ := z0h h hg; have hi : i < R.length := (Xb.1 hr).1; have hel : es.toList.length = ks.length := by rw [<- h2, Xl]
 have hil : i < es.toList.length := by omega
 have he := Xq hil; obtain ⟨g1, av0, e1, hv⟩ := h8 i _ _ hr he (by simp); simp only [List.cons.injEq, and_true] at e1; subst e1; refine h.one (o' := .con (p8 P kt 2 ks R (some i)) [x]) (L := β.inn id) hg (fun _ h => h) (fun hc => by cases hc) fun β' ow' hA hbo hin _ => ?_; refine .inl ⟨b, c, [es.toList[i].val], (hbo id).trans hb, hlt, ⟨es, clock, gs, h1, h2, h3, h4, h5, h6, fun x g q1 => by rw [hin]; exact h7 x g q1, fun x r' e q1 q2 q3 => q54 hA (fun _ _ => rfl) (h8 x r' e q1 q2 (by simp)), .inr ⟨i, _, rfl, g1, he, rfl⟩⟩, ?_⟩; simp only [x9]; exact ⟨q4v hA 0 _ (Nat.zero_le _) (fun _ hx => absurd hx (Nat.not_lt_zero _)) _ _ hv, trivial⟩
theorem zg7 {id id2 : Nat} {o o2 : AObj} (h : Rel C s a w β) (hg : q0e s.hp id = some o) (hg2 : q0e s.hp id2 = some o2) (hne : id ≠ id2) {g c : Nat} (h1 : g ∈ β.inn id) (h2 : β id2 = some (g, c)) : False :=
 hne (h.hp.bofInj _ (q0g hg) _ (q0g hg2) g (.inr h1) (.inl ⟨c, h2⟩))
theorem Rel.closeM0 (h : Rel C s a w β) {id id2 : Nat} {kt : TypeId} {ks : List Value} {R R' : List (List AV)} {i : Nat} {r : List AV} (hg : q0e s.hp id = some (.con (p8 P kt 0 ks R (some i)) [.ptr id2 0])) (hg2 : q0e s.hp id2 = some (.box r)) (hp : r.all q8j = true) (hR : R' = R.set i r) :
  ∃ β', Rel C { s with hp := q0o (q41 s.hp id2) id (.con (p8 P kt 0 ks R' none) []) } a w β' := by
 subst hR; obtain ⟨b, c, us, hb, hlt, ⟨es, clock, gs, h1, h2, h3, h4, h5, h6, h7, h8, h9⟩, hus⟩ := z0h h hg; have hne := z5p hg hg2 rfl rfl; rcases h9 with ⟨h9, _⟩ | ⟨i', e0, h9, h10, h11, rfl⟩
 . cases h9
 simp only [Xa] at h9; subst h9; simp only [x9, rep, and_true] at hus; obtain ⟨_, b2, C2, k1, k2⟩ := hus; obtain ⟨b3, C3, cur, e', k3, k4, k5⟩ := h.hp.obj _ (q0g hg2); simp only at k3; rw [k1] at k3; simp only [Xa, Xm] at k3; obtain ⟨rfl, rfl⟩ := k3; have hil : i < R.length := by
  have := (Xb.1 h11).1; rw [h5, <- h2, Xl]; exact this
 refine h.mergeC (K' := p8 P kt 0 ks (R.set i r) none) (ex' := []) hg hg2 rfl fun β' ow' hA hbo hin2 hin => ?_; refine .inl ⟨b, c, [], (hbo id).trans hb, hlt, ⟨es, clock, fun x => if x = i then some b2 else gs x, h1, h2, h3, h4, by rw [Xh]; exact h5, fun x x' g q1 q2 => ?_, fun x g q1 => ?_, fun x r' e q1 q2 _ => ?_, .inl ⟨rfl, rfl⟩⟩, by simp only [x9]⟩
 .
  by_cases hx : x = i <;> by_cases hx' : x' = i <;> simp only [hx, hx', if_true, if_false] at q1 q2
  . rw [hx, hx']
  . simp only [Xa] at q1; subst q1; exact (zg7 h hg hg2 hne (h7 x' _ q2).1 k1).elim
  . simp only [Xa] at q2; subst q2; exact (zg7 h hg hg2 hne (h7 x _ q1).1 k1).elim
  . exact h6 x x' g q1 q2
 .
  rw [Xh]
  by_cases hx : x = i <;> simp only [hx, if_true, if_false] at q1
  . simp only [Xa] at q1; subst q1; exact ⟨hin2 _ _ k1, by rw [hx]; exact hil⟩
  . exact ⟨hin g (h7 x g q1).1, (h7 x g q1).2⟩
 .
  by_cases hx : x = i
  . subst hx; rw [Xi hil] at q1; simp only [Xa] at q1; subst q1; rw [h11] at q2; simp only [Xa] at q2; subst q2; simp only [if_true]; exact ⟨b2, cur.toList, e', rfl, k2, k4, (q1f k5).symm, fun k av u q3 q4 => qp0 hA (β := β) (z1n (Yc.1 hp _ (Xj q3)) (j1k k5 q3 q4))⟩
  . rw [Xk (fun e => hx e.symm)] at q1; simp only [hx, if_false]; exact q54 hA (fun _ _ => rfl) (h8 x r' e q1 q2 (fun e => hx (by simpa using e.symm)))
theorem Rel.closeM1 (h : Rel C s a w β) {id id2 isz len : Nat} {kt : TypeId} {ks : List Value} {R R' xs : List (List AV)} {i : Nat} (hg : q0e s.hp id = some (.con (p8 P kt 1 ks R (some i)) [.osl id2 isz 0 len])) (hg2 : q0e s.hp id2 = some (.arr isz xs)) (hlen : len = xs.length) (hR : R' = R.set i [.sl isz xs]) :
  ∃ β', Rel C { s with hp := q0o (q41 s.hp id2) id (.con (p8 P kt 1 ks R' none) []) } a w β' := by
 subst hR hlen; obtain ⟨b, c, us, hb, hlt, ⟨es, clock, gs, h1, h2, h3, h4, h5, h6, h7, h8, h9⟩, hus⟩ := z0h h hg; have hne := z5p hg hg2 rfl rfl; rcases h9 with ⟨h9, _⟩ | ⟨i', e0, h9, h10, h11, rfl⟩
 . cases h9
 simp only [Xa] at h9; subst h9; simp only [x9, rep, and_true] at hus; have hob := h.hp.obj _ (q0g hg2); simp only [q5f] at hob
 let gi : Option Nat := (β id2).map (·.1)
 have hgi : ∀ g, gi = some g -> ∃ c', β id2 = some (g, c') := fun g hx => by
  simp only [gi] at hx
  cases hq : β id2 with
  | none => rw [hq] at hx; cases hx
  | some q => rw [hq] at hx; simp only [Xn, Xa] at hx; exact ⟨q.2, by rw [<- hx]⟩
 have hil : i < R.length := by
  have := (Xb.1 h11).1; rw [h5, <- h2, Xl]; exact this
 refine h.mergeC (K' := p8 P kt 1 ks (R.set i [.sl isz xs]) none) (ex' := []) hg hg2 rfl fun β' ow' hA hbo hin2 hin => ?_; refine .inl ⟨b, c, [], (hbo id).trans hb, hlt, ⟨es, clock, fun x => if x = i then gi else gs x, h1, h2, h3, h4, by rw [Xh]; exact h5, fun x x' g q1 q2 => ?_, fun x g q1 => ?_, fun x r' e q1 q2 _ => ?_, .inl ⟨rfl, rfl⟩⟩, by simp only [x9]⟩
 .
  by_cases hx : x = i <;> by_cases hx' : x' = i <;> simp only [hx, hx', if_true, if_false] at q1 q2
  . rw [hx, hx']
  . obtain ⟨c', hc⟩ := hgi g q1; exact (zg7 h hg hg2 hne (h7 x' _ q2).1 hc).elim
  . obtain ⟨c', hc⟩ := hgi g q2; exact (zg7 h hg hg2 hne (h7 x _ q1).1 hc).elim
  . exact h6 x x' g q1 q2
 .
  rw [Xh]
  by_cases hx : x = i <;> simp only [hx, if_true, if_false] at q1
  . obtain ⟨c', hc⟩ := hgi g q1; exact ⟨hin2 _ _ hc, by rw [hx]; exact hil⟩
  . exact ⟨hin g (h7 x g q1).1, (h7 x g q1).2⟩
 .
  by_cases hx : x = i
  .
   subst hx; rw [Xi hil] at q1; simp only [Xa] at q1; subst q1; rw [h11] at q2; simp only [Xa] at q2; subst q2; simp only [if_true]; refine ⟨_, rfl, isz, xs, rfl, ?_⟩; rcases hus.2 with ⟨k1, _, k2, k3⟩ | ⟨b2, c2, cap, ad, k1, k2, k3, k4, k5⟩
   . exact .inl ⟨by simp [gi, k1], List.eq_nil_of_length_eq_zero k2, k3⟩
   .
    rcases k5 with rfl | ⟨_, k5⟩
    .
     rcases hob with ⟨k6, _⟩ | ⟨b3, c3, cur, e3, k6, k7, k8, k9, k10, k11⟩
     . rw [k1] at k6; cases k6
     . rw [k1] at k6; simp only [Xa, Xm] at k6; obtain ⟨rfl, rfl⟩ := k6; exact .inr ⟨b2, c2, cap, cur, e3, by simp [gi, k1], by rw [k2]; simp, k7, k8, k3, by omega, k10, q1r hA isz b2 (fun _ _ hu => hu) xs 0 k11⟩
    . exact absurd rfl k5
  . rw [Xk (fun e => hx e.symm)] at q1; simp only [hx, if_false]; exact q54 hA (fun _ _ => rfl) (h8 x r' e q1 q2 (fun e => hx (by simpa using e.symm)))
theorem Rel.closeM2 (h : Rel C s a w β) {id : Nat} {kt : TypeId} {ks : List Value} {R R' : List (List AV)} {i : Nat} {x : AV} (hg : q0e s.hp id = some (.con (p8 P kt 2 ks R (some i)) [x])) (hp : q8j x = true) (hR : R' = R.set i [x]) :
  ∃ β', Rel C { s with hp := q0o s.hp id (.con (p8 P kt 2 ks R' none) []) } a w β' := by
 subst hR; obtain ⟨b, c, us, hb, hlt, ⟨es, clock, gs, h1, h2, h3, h4, h5, h6, h7, h8, h9⟩, hus⟩ := z0h h hg; rcases h9 with ⟨h9, _⟩ | ⟨i', e0, h9, h10, h11, rfl⟩
 . cases h9
 simp only [Xa] at h9; subst h9; simp only [x9, and_true] at hus; have hil : i < R.length := by
  have := (Xb.1 h11).1; rw [h5, <- h2, Xl]; exact this
 refine h.one (o' := .con (p8 P kt 2 ks (R.set i [x]) none) []) (L := β.inn id) hg (fun _ h => h) (fun hc => by cases hc) fun β' ow' hA hbo hin _ => ?_; refine .inl ⟨b, c, [], (hbo id).trans hb, hlt, ⟨es, clock, gs, h1, h2, h3, h4, by rw [Xh]; exact h5, h6, fun x g q1 => by rw [hin, Xh]; exact h7 x g q1, fun y r' e q1 q2 _ => ?_, .inl ⟨rfl, rfl⟩⟩, by simp only [x9]⟩
 by_cases hx : y = i
 . subst hx; rw [Xi hil] at q1; simp only [Xa] at q1; subst q1; rw [h11] at q2; simp only [Xa] at q2; subst q2; exact ⟨h10, _, rfl, qp0 hA (β := β) (z1n hp hus)⟩
 . rw [Xk (fun e => hx e.symm)] at q1; exact q54 hA (fun _ _ => rfl) (h8 y r' e q1 q2 (fun e => hx (by simpa using e.symm)))
end
end
section
open Go Go.RowKit
class Key (α : Type) where
 kv : α -> Value
 keq : α -> α -> Bool
 keq_iff : ∀ {a b : α}, keq a b = true ↔ a = b
 okb : α -> Bool
 inj : ∀ {a b : α}, kv a = kv b -> a = b
instance : Key Int where
 kv n := .int .i64 n
 keq a b := a == b
 keq_iff := by simp
 okb n := decide (-9223372036854775808 <= n) && decide (n < 9223372036854775808)
 inj h := by simpa using h
def p9 {α : Type} [Key α] (ks : List α) : List Value := ks.map Key.kv
def q2u {α : Type} [Key α] : List α -> α -> Option Nat
 | [], _ => none
 | x :: r, k => if Key.keq x k then some 0 else (q2u r k).map (· + 1)
def qn3 {α R : Type} (x : Option α) (a : Option R) (b : α -> Option R) : Option R := match x with
 | none => a
 | some i => b i
theorem q9i {α R : Type} {x : Option α} {a : Option R} {b : α -> Option R} {r : R} {p : Prop} (h : qn3 x a b = some r) (h1 : x = none -> a = some r -> p) (h2 : ∀ i, x = some i -> b i = some r -> p) : p := by
 cases x with
 | none => exact h1 rfl h
 | some i => exact h2 i rfl h
section
variable {α : Type} [Key α]
theorem z0r (ks : List α) : (p9 ks).length = ks.length := by unfold p9; simp
theorem q96 : ∀ {ks : List α} {k : α}, q2u ks k = none -> k ∉ ks
 | [], _, _ => by simp
 | x :: r, k, h => by
  unfold q2u at h
  split at h
  . cases h
  .
   rename_i hx
   simp only [Option.map_eq_none_iff] at h; have := q96 h; intro hm; rcases Xg.1 hm with rfl | hm
   . exact hx (Key.keq_iff.2 rfl)
   . exact this hm
theorem qz4 : ∀ {ks : List α} {k : α} {i : Nat}, q2u ks k = some i -> ks[i]? = some k
 | [], _, _, h => by cases h
 | x :: r, k, i, h => by
  unfold q2u at h
  split at h
  .
   rename_i hx
   cases h
   rw [Key.keq_iff.1 hx]; rfl
  . simp only [Option.map_eq_some_iff] at h; obtain ⟨j, hj, rfl⟩ := h; rw [Xw]; exact qz4 hj
theorem qj1 {ks : List α} {k : α} (h : q2u ks k = none) : Key.kv k ∉ p9 ks := fun hm => by
 obtain ⟨x, hx, he⟩ := Xp.1 hm; rw [Key.inj he] at hx; exact q96 h hx
theorem qj0 {ks : List α} {k : α} {i : Nat} (h : q2u ks k = some i) : (p9 ks)[i]? = some (Key.kv k) := by
 unfold p9; rw [Xc, qz4 h]; rfl
theorem z0s (ks : List α) (k : α) : p9 ks ++ [Key.kv k] = p9 (ks ++ [k]) := by unfold p9; simp
theorem j0c (ks : List α) (i : Nat) : (p9 ks).eraseIdx i = p9 (ks.eraseIdx i) := by
 unfold p9; refine Xo fun j => ?_; rw [Xc, Xf, Xf]
 split <;> rw [Xc]
theorem j2l {β : Type} [Row β] (vs : List β) (i : Nat) : (enc vs).eraseIdx i = enc (vs.eraseIdx i) := by
 unfold enc; refine Xo fun j => ?_; rw [Xc, Xf, Xf]
 split <;> rw [Xc]
theorem z0q {β : Type} [Row β] {vs : List β} {i : Nat} {v : β} (h : vs[i]? = some v) : (enc vs)[i]? = some (Row.row v) := by
 unfold enc; rw [Xc, h]; rfl
theorem q8e {β : Type} [Row β] (vs : List β) (i : Nat) (v : β) : enc (vs.set i v) = (enc vs).set i (Row.row v) := by
 unfold enc; rw [List.map_set]
theorem z7j {β : Type} [Row β] {vs : List β} {i : Nat} {v : β} (h : vs[i]? = some v) : enc vs = (enc vs).set i (Row.row v) := by
 rw [<- q8e]
 congr 1
 refine Xo fun j => ?_
 by_cases hj : i = j
 . subst hj; rw [Xi (Xb.1 h).1, h]
 . rw [Xk hj]
theorem z1d (ks : List α) (k : α) : (p9 (ks ++ [k]))[ks.length]? = some (Key.kv k) := by
 unfold p9; rw [Xc, Xt (Xe _), Nat.sub_self]; rfl
def atK {β : Type} (vs : List β) (i : Nat) : Option β := vs[i]?
end
theorem wfK {n : Int} (h : -9223372036854775808 <= n /\ n < 9223372036854775808) : (Lit.int .i64 n).wf = true := by
 have h1 : IntKind.min .i64 = -9223372036854775808 := rfl; have h2 : IntKind.max .i64 = 9223372036854775807 := rfl; simp only [Lit.wf, h1, h2, Xv, decide_eq_true_eq]; omega
theorem zl0 : ∀ {hp : Hp}, (hp.map (·.1)).Nodup -> ∀ {id : Nat} {o : AObj}, (id, o) ∈ hp -> q0e hp id = some o
 | [], _, _, _, h => by cases h
 | (k, v) :: r, hd, id, o, h => by
  simp only [X4, Xy] at hd; unfold q0e; rcases Xg.1 h with h | h
  . cases h; rw [if_pos rfl]
  . have hne : k ≠ id := fun e => hd.1 (by rw [e]; exact Xd h); rw [if_neg hne]; exact zl0 hd.2 h
theorem keyOf_i64 {P : Program} {k : TypeId} (hk : P.underlying k = some (.int .i64)) {n : Int} (h : Key.okb n = true) : ∃ l, keyOf P k (Key.kv n) = some l :=
 ⟨_, Go.Maps.keyOf_int_mk hk (wfK (by simpa [Key.okb] using h))⟩
def z9s : List AV -> List AV -> Prop
 | [], [] => True
 | a :: r, b :: q => (a = b \/ (a = .v (.slice none 0 0) /\ ∃ sz, b = .sl sz [])) /\ z9s r q
 | _, _ => False
theorem zk7 : ∀ {r q : List AV}, z9s r q -> r.length = q.length
 | [], [], _ => rfl
 | a :: r, b :: q, h => by simp only [List.length_cons]; rw [zk7 h.2]
 | [], _ :: _, h => h.elim
 | _ :: _, [], h => h.elim
theorem zk8 : ∀ {r q : List AV}, z9s r q -> ∀ {k : Nat} {b : AV}, q[k]? = some b -> ∃ a, r[k]? = some a /\ (a = b \/ (a = .v (.slice none 0 0) /\ ∃ sz, b = .sl sz []))
 | [], [], _, _, _, h => by simp at h
 | a :: r, b :: q, h, 0, _, hk => by simp only [List.getElem?_cons_zero, Xa] at hk; subst hk; exact ⟨a, rfl, h.1⟩
 | a :: r, b :: q, h, k + 1, _, hk => by
  rw [Xw] at hk ⊢; exact zk8 h.2 hk
 | [], _ :: _, h, _, _, _ => h.elim
 | _ :: _, [], h, _, _, _ => h.elim
theorem Rel.closeM0n {P : Program} {C : Ctx P} {s : St} {a : Act} {w : World} {β : Ghost} (h : Rel C s a w β) {id id2 : Nat} {kt : TypeId} {ks : List Value} {R R' : List (List AV)} {i : Nat} {r : List AV} (r' : List AV) (hg : q0e s.hp id = some (.con (p8 P kt 0 ks R (some i)) [.ptr id2 0])) (hg2 : q0e s.hp id2 = some (.box r)) (hp : r.all q8j = true) (hn : z9s r r') (hR : R' = R.set i r') :
  ∃ β', Rel C { s with hp := q0o (q41 s.hp id2) id (.con (p8 P kt 0 ks R' none) []) } a w β' := by
 obtain ⟨β', h'⟩ := h.closeM0 hg hg2 hp rfl; subst hR; have hgo : q0e (q0o (q41 s.hp id2) id (.con (p8 P kt 0 ks (R.set i r) none) [])) id = some (.con (p8 P kt 0 ks (R.set i r) none) []) := by
  have hm := q0g hg; have hne := z5p hg hg2 rfl rfl; have hmem : (id, AObj.con (p8 P kt 0 ks (R.set i r) none) []) ∈ q0o (q41 s.hp id2) id (.con (p8 P kt 0 ks (R.set i r) none) []) := by
   have hk : id ∈ (q0o (q41 s.hp id2) id (.con (p8 P kt 0 ks (R.set i r) none) [])).map (·.1) := by
    rw [q93]; exact Xp.2 ⟨_, qt7.2 ⟨hm, hne⟩, rfl⟩
   obtain ⟨q, hq, he⟩ := Xp.1 hk; rcases qh4 ((sub_delO.map _).nodup h.hp.nd) hq with hq2 | ⟨_, hx⟩
   . rw [<- hq2]; exact hq
   . exact absurd he hx
  exact zl0 h'.hp.nd hmem
 obtain ⟨b, c, us, hb, hlt, ⟨es, clock, gs, h1, h2, h3, h4, h5, h6, h7, h8, h9⟩, hus⟩ := z0h h' hgo; have hres := h'.one (o' := .con (p8 P kt 0 ks (R.set i r') none) []) (L := β'.inn id) hgo (fun _ h => h) (fun hc => by cases hc) fun β2 ow' hA hbo hin _ => by
  refine .inl ⟨b, c, [], (hbo id).trans hb, hlt, ⟨es, clock, gs, h1, h2, h3, h4, by rw [Xh] at h5 ⊢; exact h5, h6, fun x g q1 => by rw [hin]; have := h7 x g q1; rw [Xh] at this ⊢; exact this, fun x q e q1 q2 _ => ?_, .inl ⟨rfl, rfl⟩⟩, by simp only [x9]⟩
  by_cases hx : x = i
  .
   subst hx; have hil : x < R.length := by have := (Xb.1 q1).1; rw [Xh] at this; exact this
   rw [Xi hil] at q1; simp only [Xa] at q1; subst q1; obtain ⟨b2, cs, e', g1, g2, g3, g4, g5⟩ := h8 x r e (by rw [Xi hil]) q2 (by simp); refine ⟨b2, cs, e', g1, g2, g3, by rw [g4]; exact zk7 hn, fun k av v k1 k2 => ?_⟩; obtain ⟨a0, k3, k4⟩ := zk8 hn k1; have k5 := qp0 (β' := noG) hA (g5 k a0 v k3 k2); rcases k4 with rfl | ⟨rfl, sz, rfl⟩
   . exact k5
   . simp only [rep] at k5 ⊢; exact .inl ⟨trivial, none, 0, k5⟩
  . rw [Xk (fun e => hx e.symm)] at q1; exact q54 hA (fun _ _ => rfl) (h8 x q e (by rw [Xk (fun e => hx e.symm)]; exact q1) q2 (by simp))
 obtain ⟨β3, h3'⟩ := hres; refine ⟨β3, ?_⟩; have hss : ∀ (hp : Hp) (i : Nat) (o o' : AObj), q0o (q0o hp i o) i o' = q0o hp i o' := fun hp i o o' => by
  induction hp with
  | nil => rfl
  | cons q r ih => obtain ⟨k, v⟩ := q; simp only [q0o]; split <;> simp_all [q0o]
 rw [hss] at h3'; exact h3'
attribute [go_sem] z8n z0j z5m j8t j4c j8u j8s z0r z0s j0c j2l
end
section
open Go Go.RowKit
def zm7 (P : Program) : Nat -> TypeId -> Bool
 | 0, _ => false
 | d + 1, t => match P.underlying t with
  | some (.int .i64) => P.cellsOf t == 1
  | some (.array n e) => zm7 P d e && (P.cellsOf t == n * P.cellsOf e)
  | some (.struct fs) => fs.all (·.name != "_") && fs.toList.all fun f => zm7 P d f.type && decide (f.offset + P.cellsOf f.type <= P.cellsOf t)
  | _ => false
theorem z9t {α β : Type} {f : α -> Option β} : ∀ (l : List α), (∀ x ∈ l, ∃ y, f x = some y) -> ∃ ys, l.mapM f = some ys
 | [], _ => ⟨[], rfl⟩
 | a :: r, h => by
  obtain ⟨y, hy⟩ := h a (X8 ..); obtain ⟨ys, hys⟩ := z9t r fun x hx => h x (List.mem_cons_of_mem _ hx); exact ⟨y :: ys, by rw [List.mapM_cons, hy, hys]; rfl⟩
theorem z9w {P : Program} : ∀ (d : Nat) (t : TypeId) (cs : List Value), zm7 P d t = true -> cs.length = P.cellsOf t -> (∀ c ∈ cs, ∃ n, c = .int .i64 n /\ (Lit.int .i64 n).wf = true) -> ∃ ls, P.keyLits d t cs = some ls
 | 0, _, _, h, _, _ => by cases h
 | d + 1, t, cs, h, hl, hc => by
  unfold zm7 at h
  split at h
  .
   rename_i hu
   rw [eq_of_beq h] at hl; obtain ⟨c, rfl⟩ : ∃ c, cs = [c] := List.length_eq_one_iff.1 hl; obtain ⟨n, rfl, hw⟩ := hc c (X8 ..); refine ⟨[.int .i64 n], ?_⟩; unfold Program.keyLits; rw [hu]; simp only [hw, and_self, if_true]
  .
   rename_i n e hu
   simp only [Xv, beq_iff_eq] at h; obtain ⟨ys, hys⟩ := z9t (f := fun i => P.keyLits d e ((cs.drop (i * P.cellsOf e)).take (P.cellsOf e))) (List.range n) fun i hi => by
    refine z9w d e _ h.1 ?_ fun c hm => hc c (X2 (X3 hm)); have hi := List.mem_range.1 hi; have : (i + 1) * P.cellsOf e <= n * P.cellsOf e := Nat.mul_le_mul_right _ hi; rw [Nat.add_mul, Nat.one_mul] at this; rw [Yd, Ye, hl, h.2]; omega
   refine ⟨ys.flatten, ?_⟩; unfold Program.keyLits; rw [hu]; simp only [hl, if_true, hys, Xn]
  .
   rename_i fs hu
   simp only [Xv, Yc, decide_eq_true_eq] at h; obtain ⟨ys, hys⟩ := z9t (f := fun f => P.keyLits d f.type ((cs.drop f.offset).take (P.cellsOf f.type))) fs.toList fun f hf => by
    obtain ⟨h1, h2⟩ := h.2 f hf; refine z9w d f.type _ h1 ?_ fun c hm => hc c (X2 (X3 hm)); rw [Yd, Ye, hl]; omega
   refine ⟨ys.flatten, ?_⟩; unfold Program.keyLits; rw [hu]; simp only [hl, h.1, and_self, if_true, hys, Xn]
  . cases h
theorem zz9 {P : Program} {t : TypeId} {cs : List Value} (hu : (match P.underlying t with | some (.array _ _) | some (.struct _) => true | _ => false) = true) (hk : P.keyType t = true) (hf : (Value.agg ⟨cs⟩).formed P t = true) (h : zm7 P (P.types.size + 1) t = true) (hl : cs.length = P.cellsOf t) (hc : ∀ c ∈ cs, ∃ n, c = .int .i64 n /\ (Lit.int .i64 n).wf = true) : ∃ l, keyOf P t (.agg ⟨cs⟩) = some l := by
 obtain ⟨ls, hls⟩ := z9w _ t cs h hl hc; refine ⟨.string (keyBytes ls), ?_⟩; unfold keyOf
 split at hu <;> first | (cases hu; done) | (rename_i hx; rw [hx]; simp only [hk, hf, Bool.and_self, if_true, Value.cells, hls, Xn])
theorem zc8 {w : World} {β : Ghost} {nx : Nat} {ow : Nat -> Prop} : ∀ {r q : List AV} {us : List Value}, z9s r q -> x9 w β nx ow r us -> x9 w β nx ow q us
 | [], [], _, _, h => h
 | a :: r, b :: q, [], hn, h => by simp only [x9] at h
 | a :: r, b :: q, u :: us, hn, h => by
  simp only [x9] at h ⊢; refine ⟨?_, zc8 hn.2 h.2⟩; rcases hn.1 with rfl | ⟨rfl, sz, rfl⟩
  . exact h.1
  . have := h.1; simp only [rep] at this ⊢; exact .inl ⟨trivial, none, 0, this⟩
 | [], _ :: _, _, h, _ => h.elim
 | _ :: _, [], _, h, _ => h.elim
theorem Rel.nilBox {P : Program} {C : Ctx P} {s : St} {a : Act} {w : World} {β : Ghost} (h : Rel C s a w β) {id : Nat} {r : List AV} (r' : List AV) (hg : q0e s.hp id = some (.box r)) (hn : z9s r r') :
  ∃ β', Rel C { s with hp := q0o s.hp id (.box r') } a w β' :=
 h.one (o' := .box r') (L := []) hg (fun _ h => by cases h) (fun _ => rfl) fun β' ow' hA hbo hin _ => by
  obtain ⟨b, cc, cur, e, h1, h2, h3⟩ := h.hp.obj _ (q0g hg); exact ⟨b, cc, cur, e, (hbo id).trans h1, h2, zc8 hn (q1h hA _ _ (Xe _) (fun x _ => hbo x) _ _ h3)⟩
attribute [go_sem] List.headD_cons
theorem z02 {n : Int} (h : Key.okb n = true) : ∃ m, Value.int .i64 n = .int .i64 m /\ (Lit.int .i64 m).wf = true := ⟨n, rfl, wfK (by simpa [Key.okb] using h)⟩
end
end Go.Proofs.YteibkihbdgphnaaGreat
