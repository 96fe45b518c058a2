/-
  The law in plain words: what its plain function gives is true. No condition beyond those that each theorem names.
-/
import Derived.Test.YtghbgjnmccjhdaaGreatWalkWN1
import Derived.Test.YtghbgjnmccjhdaaGreatP27a
import Derived.Test.YtghbgjnmccjhdaaGreatP11l
import Derived.Test.YtghbgjnmccjhdaaGreatP05d
set_option linter.unusedSimpArgs false
set_option linter.unusedVariables false
set_option linter.unusedSectionVars false
namespace Go.Proofs.YtghbgjnmccjhdaaGreat
open Go Go.RowKit TS VA BG
namespace WV
open Classical
structure Fn (l : List GItem) : Prop where
 rt : Rt l
 pos : OP.Pos l
theorem Fn.nil : Fn [] := ⟨Rt.nil, by simp [OP.Pos]⟩
theorem Fn.len {l : List GItem} (h : Fn l) : (l.length : Int) ≤ tot l := h.pos.tot_nonneg
theorem Fn.of {l : List GItem} (h : CE.Fine l) : Fn l ∧ tot l ≤ 65536 := ⟨⟨h.rt, h.pos⟩, by rw [← h.pos.big]; exact h.big⟩
theorem zd8 {l : List GItem} (h : Fn l) (h1 : l ≠ []) : 1 ≤ tot l := by
 have := h.len
 cases l with
 | nil => exact absurd rfl h1
 | cons x l => simp only [List.length_cons] at this; omega
theorem z0i {a b : List GItem} (ha : Fn a) (hb : Fn b) (h : tot a + tot b ≤ 50000000) : Ok (q6a a b) fun c => Fn c ∧ tot c = tot a + tot b := by
 have h1 := ha.len; have h2 := hb.len; refine (j2g ha.rt hb.rt (by rw [ha.pos.big, hb.pos.big]; omega) (by omega)).mono fun c hc => ⟨⟨hc.rt, fun y hy => ?_⟩, hc.tot⟩; have h3 := hc.cnt y.Rec; rw [z0f hc.rt.inc hy] at h3; have h4 := z6h ha.pos y.Rec; have h5 := z6h hb.pos y.Rec; have h6 := (hc.rt.num y hy).1; omega
theorem z06 {b : List GItem} (h : Fn b) (hl : tot b ≤ 100000000) : q66 b = some (tot b) := by
 have hp := h.len; unfold q66; refine j6n (j6m (fun s => ∃ i : Nat, s = (tot (b.take i), (i : Int)) ∧ i ≤ b.length) (fun s => b.length - s.2.toNat) ?_ ⟨0, by simp [tot], Nat.zero_le _⟩ (by simp only [rounds]; omega)); rintro rec _ ⟨i, rfl, hi⟩ hrec; unfold qq1; dsimp only; refine j6k (fun hx => ?_) (fun hx => Ok.some ?_)
 ·
  have hi' : i < b.length := by simpa using hx
  have h1 := z0j h.pos (i + 1); have h3 := z3n hi'; refine Ok.bind (j6l hi' ?_); rw [← h3, wrap_i64 (tot (b.take (i + 1))) (by omega), wrap_i64 ((i : Int) + 1) (by omega)]; exact hrec _ ⟨i + 1, rfl, hi'⟩ (by simp only; omega)
 ·
  obtain rfl : i = b.length := by simp at hx; omega
  rw [List.take_length]
def bt (x : Arr2 (List GItem)) : Int := tot x.a0 + tot x.a1
structure Pool (g : GGraph) (pts : List GPoint) (ins : List (Arr2 (List GItem))) (T : Int) : Prop where
 len : ins.length = pts.length
 pt : ∀ p ∈ pts, qf1 g p
 nd : pts.Nodup
 bag : ∀ x ∈ ins, Fn x.a0 ∧ Fn x.a1
 pos : ∀ x ∈ ins, 1 ≤ bt x
 tot : (ins.map bt).sum ≤ T
theorem zm3 {α : Type} {f : α → Int} : ∀ {l : List α}, (∀ x ∈ l, 1 ≤ f x) → (l.length : Int) ≤ (l.map f).sum
 | [], _ => by simp
 | x :: l, h => by
  have h1 := h x (by simp); have h2 := zm3 (l := l) fun y hy => h y (by simp [hy]); simp only [List.map_cons, List.sum_cons, List.length_cons]; omega
theorem z2m {α : Type} {f : α → Int} : ∀ {l : List α}, (∀ x ∈ l, 0 ≤ f x) → ∀ x ∈ l, f x ≤ (l.map f).sum ∧ 0 ≤ (l.map f).sum
 | [], _, x, hx => by simp at hx
 | y :: l, h, x, hx => by
  have h1 := h y (by simp); have h2 := fun x hx => z2m (l := l) (fun y hy => h y (by simp [hy])) x hx; have h3 : 0 ≤ (l.map f).sum := by
   cases l with
   | nil => simp
   | cons z l => exact (h2 z (by simp)).2
  simp only [List.map_cons, List.sum_cons]; rcases List.mem_cons.1 hx with rfl | hx
  · omega
  · have := h2 x hx; omega
theorem ze1 {α : Type} {f : α → Int} : ∀ {l : List α} {i : Nat} (hi : i < l.length) (x : α), ((l.set i x).map f).sum = (l.map f).sum - f l[i] + f x
 | y :: l, 0, _, x => by simp only [List.set_cons_zero, List.map_cons, List.sum_cons, List.getElem_cons_zero]; omega
 | y :: l, i + 1, h, x => by
  have := ze1 (f := f) (l := l) (i := i) (by simpa using h) x; simp only [List.set_cons_succ, List.map_cons, List.sum_cons, List.getElem_cons_succ]; omega
theorem ze2 {α : Type} {f : α → Int} : ∀ {l : List α} {i : Nat} (hi : i < l.length), ((l.take i ++ l.drop (i + 1)).map f).sum = (l.map f).sum - f l[i]
 | y :: l, 0, _ => by simp only [List.take_zero, List.nil_append, List.drop_succ_cons, List.drop_zero, List.map_cons, List.sum_cons, List.getElem_cons_zero]; omega
 | y :: l, i + 1, h => by
  have := ze2 (f := f) (l := l) (i := i) (by simpa using h); simp only [List.take_succ_cons, List.cons_append, List.drop_succ_cons, List.map_cons, List.sum_cons, List.getElem_cons_succ]; omega
theorem Pool.many {g : GGraph} {pts : List GPoint} {ins : List (Arr2 (List GItem))} {T : Int} (h : Pool g pts ins T) : (pts.length : Int) ≤ T := by
 have := zm3 h.pos; have := h.tot; have := h.len; omega
theorem Pool.each {g : GGraph} {pts : List GPoint} {ins : List (Arr2 (List GItem))} {T : Int} (h : Pool g pts ins T) : ∀ x ∈ ins, bt x ≤ T := fun x hx => by
 have := z2m (f := bt) (fun y hy => by have := h.pos y hy; omega) x hx; have := h.tot; omega
theorem Pool.mono {g : GGraph} {pts : List GPoint} {ins : List (Arr2 (List GItem))} {T T' : Int} (h : Pool g pts ins T) (k : T ≤ T') : Pool g pts ins T' := ⟨h.len, h.pt, h.nd, h.bag, h.pos, Int.le_trans h.tot k⟩
structure Slot (g : GGraph) (pts : List GPoint) (ins : List (Arr2 (List GItem))) (T : Int) (q : GPoint) (i : Nat) (pts' : List GPoint) (ins' : List (Arr2 (List GItem))) : Prop where
 hi : i < pts'.length
 at_ : pts'[i] = q
 sub : ∀ p ∈ pts', p ∈ pts ∨ p = q
 sup : ∀ p ∈ pts, p ∈ pts'
 len : ins'.length = pts'.length
 pt : ∀ p ∈ pts', qf1 g p
 nd : pts'.Nodup
 bag : ∀ x ∈ ins', Fn x.a0 ∧ Fn x.a1
 pos : ∀ k (h : k < ins'.length), k ≠ i → 1 ≤ bt ins'[k]
 tot : (ins'.map bt).sum ≤ T
 grow : pts'.length ≤ pts.length + 1
theorem Slot.pos0 {g : GGraph} {pts pts' : List GPoint} {ins ins' : List (Arr2 (List GItem))} {T : Int} {q : GPoint} {i : Nat} (h : Slot g pts ins T q i pts' ins') : ∀ x ∈ ins', 0 ≤ BG.tot x.a0 ∧ 0 ≤ BG.tot x.a1 := fun x hx => by
 obtain ⟨h1, h2⟩ := h.bag x hx; have := h1.len; have := h2.len; omega
theorem Slot.each {g : GGraph} {pts pts' : List GPoint} {ins ins' : List (Arr2 (List GItem))} {T : Int} {q : GPoint} {i : Nat} (h : Slot g pts ins T q i pts' ins') : ∀ x ∈ ins', bt x ≤ T := fun x hx => by
 have := z2m (f := bt) (fun y hy => by have := h.pos0 y hy; unfold bt; omega) x hx; have := h.tot; omega
theorem Slot.set {g : GGraph} {pts pts' : List GPoint} {ins ins' : List (Arr2 (List GItem))} {T : Int} {q : GPoint} {i : Nat} (h : Slot g pts ins T q i pts' ins') {x : Arr2 (List GItem)} {m : Int} (hx : Fn x.a0 ∧ Fn x.a1) (hm : 1 ≤ m)
  (ht : bt x = bt (ins'[i]'(by rw [h.len]; exact h.hi)) + m) : Pool g pts' (ins'.set i x) (T + m) := by
 have hi : i < ins'.length := by rw [h.len]; exact h.hi
 refine ⟨by rw [List.length_set]; exact h.len, h.pt, h.nd, fun y hy => ?_, fun y hy => ?_, ?_⟩
 ·
  rcases List.mem_or_eq_of_mem_set hy with hy | rfl
  · exact h.bag y hy
  · exact hx
 ·
  obtain ⟨k, hk, rfl⟩ := List.mem_iff_getElem.1 hy; rw [List.length_set] at hk; rw [List.getElem_set]
  split
  · have := h.pos0 _ (List.getElem_mem hi); rw [ht]; unfold bt; omega
  ·
   rename_i hne
   exact h.pos k hk (fun e => hne e.symm)
 · rw [ze1 hi, ht]; have := h.tot; omega
theorem zy5 {l : List GPoint} {p : GPoint} (hl : l.length < 1000000000) : Ok (q2l l p) fun i => (i = -1 ∧ p ∉ l) ∨ ∃ k : Nat, ∃ h : k < l.length, i = (k : Int) ∧ l[k] = p := by
 unfold q2l; refine j6p (l := l) (by omega) (fun i => p ∉ l.take i) 0 (fun rec i hi _ hI hr => ?_) (fun rec hI => ?_) (by simp) (Nat.zero_le _)
 ·
  unfold q5v; rw [if_pos (by simpa using hi), iw hi (by omega)]; refine Ok.bind (j6l hi ?_); rw [UN.pt_eq]; refine j6k (fun h => Ok.some (.inr ⟨i, hi, rfl, ?_⟩)) (fun h => hr ?_)
  · simp only [decide_eq_true_eq] at h; exact h.symm
  · simp only [decide_eq_false_iff_not] at h; rw [snoc hi, List.mem_append, List.mem_singleton]; exact fun hh => hh.elim hI h
 · unfold q5v; rw [if_neg (by simp)]; rw [List.take_length] at hI; exact Ok.some (.inl ⟨rfl, hI⟩)
theorem z3r {T' : Type} {g : GGraph} {pts : List GPoint} {ins : List (Arr2 (List GItem))} {T : Int} {q : GPoint} (hP : Pool g pts ins T) (hq : qf1 g q) (hT : T ≤ 50000000)
  {J : Int → List GPoint → List (Arr2 (List GItem)) → Option T'} {Q : T' → Prop} (hJ : ∀ i pts' ins', Slot g pts ins T q i pts' ins' → Ok (J (i : Int) pts' ins') Q) :
  Ok (q9 (q2l pts q) (fun (v : Int) => (if (decide (v < 0)) = true then y9 ((List.length pts + List.length ([q] : List GPoint)) * 48 ≤ 140737488355328) (
   y9 ((List.length ins + List.length ([(⟨([] : List GItem), ([] : List GItem)⟩ : Arr2 (List GItem))] : List (Arr2 (List GItem)))) * 48 ≤ 140737488355328) (
    J (List.length pts : Int) (pts ++ ([q] : List GPoint)) (ins ++ ([(⟨([] : List GItem), ([] : List GItem)⟩ : Arr2 (List GItem))] : List (Arr2 (List GItem)))))) else J v pts ins))) Q := by
 have hm := hP.many; have hlen := hP.len; refine j6j (zy5 (by omega)) fun v hv => ?_; rcases hv with ⟨rfl, hn⟩ | ⟨k, hk, rfl, rfl⟩
 ·
  rw [if_pos (by simp)]; refine Ok.guard (by simp; omega) (Ok.guard (by simp; omega) (hJ pts.length _ _ ⟨by simp, by simp, fun p hp => by simpa using hp, fun p hp => by simp [hp], by simp [hlen], fun p hp => ?_, ?_, fun x hx => ?_, fun k hk hne => ?_, ?_, by simp⟩))
  ·
   rcases List.mem_append.1 hp with hp | hp
   · exact hP.pt p hp
   · rw [List.mem_singleton.1 hp]; exact hq
  · exact List.nodup_append.2 ⟨hP.nd, by simp, fun a ha b hb => by rw [List.mem_singleton.1 hb]; exact fun e => hn (e ▸ ha)⟩
  ·
   rcases List.mem_append.1 hx with hx | hx
   · exact hP.bag x hx
   · rw [List.mem_singleton.1 hx]; exact ⟨Fn.nil, Fn.nil⟩
  ·
   have hk' : k < ins.length := by simp at hk; omega
   rw [List.getElem_append_left hk']; exact hP.pos _ (List.getElem_mem hk')
  ·
   rw [List.map_append, List.sum_append]; have := hP.tot
   simpa [bt, tot] using this
 · rw [if_neg (by simp)]; exact hJ k pts ins ⟨hk, rfl, fun p hp => .inl hp, fun p hp => hp, hlen, hP.pt, hP.nd, hP.bag, fun k' hk' _ => hP.pos _ (List.getElem_mem hk'), hP.tot, by omega⟩
theorem Pool.del {g : GGraph} {pts : List GPoint} {ins : List (Arr2 (List GItem))} {T : Int} (h : Pool g pts ins T) {i : Nat} (hi : i < pts.length) :
  Pool g (pts.take i ++ pts.drop (i + 1)) (ins.take i ++ ins.drop (i + 1)) (T - bt (ins[i]'(by rw [h.len]; exact hi))) := by
 have hsub : ∀ {α : Type} (l : List α), (l.take i ++ l.drop (i + 1)).Sublist l := fun l => by
  conv => rhs; rw [← List.take_append_drop i l]
  exact List.Sublist.append (List.Sublist.refl _) (List.drop_sublist_drop_left _ (by omega))
 have hl := h.len; refine ⟨by simp; omega, fun p hp => h.pt p ((hsub _).subset hp), (hsub _).nodup h.nd, fun x hx => h.bag x ((hsub _).subset hx), fun x hx => h.pos x ((hsub _).subset hx), ?_⟩; rw [ze2 (by omega)]; have := h.tot; omega
end WV
end Go.Proofs.YtghbgjnmccjhdaaGreat
