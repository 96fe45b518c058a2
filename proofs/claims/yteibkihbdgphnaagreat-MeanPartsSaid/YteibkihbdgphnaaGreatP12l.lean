/-
  The law in plain words: what its plain function gives is true. No condition beyond those that each theorem names.
-/
import Derived.Test.YteibkihbdgphnaaGreatWalkMP0
import Derived.Test.YteibkihbdgphnaaGreatWalkMP1
import Derived.Test.YteibkihbdgphnaaGreatP01a
import Derived.Test.YteibkihbdgphnaaGreatP09e
import Derived.Test.YteibkihbdgphnaaGreatP11l
import Derived.Test.YteibkihbdgphnaaGreatP05d
set_option linter.unusedSimpArgs false
set_option linter.unusedVariables false
set_option linter.unusedSectionVars false
open List renaming map_cons -> Xa, sum_cons -> Xb, mem_cons_of_mem -> Xc, getElem_cons_zero -> Xd, getElem_cons_succ -> Xe, length_cons -> Xf
namespace Go.Proofs.YteibkihbdgphnaaGreat
open Go Go.RowKit TS VA BG
namespace MN
open Classical
structure Fn (l : List GItem) : Prop where
 rt : Rt l
 pos : OP.Pos l
theorem Fn.nil : Fn [] := ⟨Rt.nil, by simp [OP.Pos]⟩
theorem Fn.len {l : List GItem} (h : Fn l) : (l.length : Int) <= tot l := h.pos.tot_nonneg
theorem Fn.of {l : List GItem} (h : CE.Fine l) : Fn l /\ tot l <= 65536 := ⟨⟨h.rt, h.pos⟩, by rw [<- h.pos.big]; exact h.big⟩
theorem zs9 {l : List GItem} (h : Fn l) (h1 : l ≠ []) : 1 <= tot l := by
 have := h.len
 cases l with
 | nil => exact absurd rfl h1
 | cons x l => simp only [Xf] at this; omega
theorem j7u {a b : List GItem} (ha : Fn a) (hb : Fn b) (h : tot a + tot b <= 50000000) : Ok (q4g a b) fun c => Fn c /\ tot c = tot a + tot b /\ ∀ x, cnt c x = cnt a x + cnt b x := by
 have h1 := ha.len; have h2 := hb.len; refine (j7t ha.rt hb.rt (by rw [ha.pos.big, hb.pos.big]; omega) (by omega)).mono fun c hc => ⟨⟨hc.rt, fun y hy => ?_⟩, hc.tot, hc.cnt⟩; have h3 := hc.cnt y.Rec; rw [z0t hc.rt.inc hy] at h3; have h4 := zb0 ha.pos y.Rec; have h5 := zb0 hb.pos y.Rec; have h6 := (hc.rt.num y hy).1; omega
def bt (x : Arr2 (List GItem)) : Int := tot x.a0 + tot x.a1
theorem j1b {α : Type} {f : α -> Int} : ∀ {l : List α}, (∀ x ∈ l, 1 <= f x) -> (l.length : Int) <= (l.map f).sum
 | [], _ => by simp
 | x :: l, h => by
  have h1 := h x (by simp); have h2 := j1b (l := l) fun y hy => h y (by simp [hy]); simp only [Xa, Xb, Xf]; omega
theorem z5g {α : Type} {f : α -> Int} : ∀ {l : List α}, (∀ x ∈ l, 0 <= f x) -> ∀ x ∈ l, f x <= (l.map f).sum /\ 0 <= (l.map f).sum
 | [], _, x, hx => by simp at hx
 | y :: l, h, x, hx => by
  have h0 := h y (by simp); simp only [Xa, Xb]; rcases List.mem_cons.1 hx with rfl | hx
  .
   have : 0 <= (l.map f).sum := by
    have hz : ∀ z ∈ l, 0 <= f z := fun z hz => h z (Xc _ hz); clear hx h h0
    induction l with
    | nil => simp
    | cons a l ih => simp only [Xa, Xb]; have := hz a (by simp); have := ih fun z hz' => hz z (Xc _ hz'); omega
   omega
  . have := z5g (l := l) (fun z hz => h z (Xc _ hz)) x hx; omega
theorem z5f {α : Type} {f : α -> Int} : ∀ {l : List α} {i : Nat} (hi : i < l.length) (x : α), ((l.set i x).map f).sum = (l.map f).sum - f l[i] + f x
 | y :: l, 0, _, x => by simp only [List.set_cons_zero, Xa, Xb, Xd]; omega
 | y :: l, i + 1, hi, x => by
  have := z5f (l := l) (i := i) (f := f) (by simpa using hi) x; simp only [List.set_cons_succ, Xa, Xb, Xe]; omega
theorem z9k {α : Type} {f : α -> Int} (l : List α) (x : α) : ((l ++ [x]).map f).sum = (l.map f).sum + f x := by simp
theorem zb9 {α : Type} {f : α -> Int} : ∀ {l : List α} {i : Nat} (hi : i < l.length), ((l.eraseIdx i).map f).sum = (l.map f).sum - f l[i]
 | y :: l, 0, _ => by simp only [List.eraseIdx_cons_zero, Xa, Xb, Xd]; omega
 | y :: l, i + 1, hi => by
  have := zb9 (l := l) (i := i) (f := f) (by simpa using hi); simp only [List.eraseIdx_cons_succ, Xa, Xb, Xe]; omega
def z0 : GTime := ⟨0, ⟨0, 0, 0, 0⟩⟩
def enT (t : GTime) : GTime := ⟨t.D + 1, t.C⟩
def leT (t : GTime) : GTime := if t.D = 2 then ⟨1, ⟨t.C.a0, 0, 0, 0⟩⟩ else if t.D = 3 then ⟨2, ⟨t.C.a0, t.C.a1, 0, 0⟩⟩ else ⟨3, ⟨t.C.a0, t.C.a1, t.C.a2, 0⟩⟩
def nxT (t : GTime) : GTime := if t.D = 1 then ⟨1, ⟨t.C.a0 + 1, t.C.a1, t.C.a2, t.C.a3⟩⟩ else if t.D = 2 then ⟨2, ⟨t.C.a0, t.C.a1 + 1, t.C.a2, t.C.a3⟩⟩ else if t.D = 3 then ⟨3, ⟨t.C.a0, t.C.a1, t.C.a2 + 1, t.C.a3⟩⟩ else ⟨4, ⟨t.C.a0, t.C.a1, t.C.a2, t.C.a3 + 1⟩⟩
def lastT (t : GTime) : Int := if t.D = 1 then t.C.a0 else if t.D = 2 then t.C.a1 else if t.D = 3 then t.C.a2 else t.C.a3
def qa5 (t : GTime) : Int := if t.D = 1 then 1048576 else 64
theorem zq2 (t : GTime) : qk3 t = some (if ok t /\ t.D ≠ 4 then (enT t, true) else (z0, false)) := by
 unfold qk3; rw [TS.Right_eq]; refine Ok.eq (Ok.bind (Ok.some ?_))
 by_cases h : ok t
 .
  have h1 := h.1; have h2 := h.2.1
  by_cases h4 : t.D = 4
  . rw [if_pos (by simp [h4]), if_neg (by simp [h4])]; exact Ok.some rfl
  . rw [if_neg (by simp [h4, h]), if_pos ⟨h, h4⟩, wrap_i64 _ (by omega)]; exact Ok.some rfl
 . rw [if_pos (by simp [h]), if_neg (by simp [h])]; exact Ok.some rfl
theorem zq1 (t : GTime) : qk2 t = some (if ok t /\ t.D ≠ 1 then (leT t, true) else (z0, false)) := by
 unfold qk2; rw [TS.Right_eq]; refine Ok.eq (Ok.bind (Ok.some (jh5 (fun hx => ?_) (fun hx => ?_))))
 .
  have : ¬ (ok t /\ t.D ≠ 1) := fun h => by simp [h.1] at hx; exact h.2 hx
  rw [if_neg this]; exact Ok.some rfl
 .
  have h : ok t /\ t.D ≠ 1 := by simpa using hx
  rw [if_pos h]; obtain ⟨h, h1⟩ := h; have hD := q9q h; obtain ⟨D, ⟨a0, a1, a2, a3⟩⟩ := t; unfold ok at h; dsimp only at hD h1 h ⊢; rcases hD with rfl | rfl | rfl | rfl
  . exact absurd rfl h1
  .
   simp only [Int.reduceLT, if_false] at h; obtain ⟨rfl, rfl⟩ : a2 = 0 /\ a3 = 0 := by omega
   refine Ok.guard (by decide) ?_; refine Ok.bind (Ok.some (Ok.bind (Ok.some (Ok.bind (Ok.some (Ok.bind (Ok.some (Ok.some ?_)))))))); rfl
  .
   simp only [Int.reduceLT, if_false] at h; obtain rfl : a3 = 0 := by omega
   refine Ok.guard (by decide) ?_; refine Ok.bind (Ok.some (Ok.bind (Ok.some (Ok.bind (Ok.some (Ok.bind (Ok.some (Ok.some ?_)))))))); rfl
  . refine Ok.guard (by decide) ?_; refine Ok.bind (Ok.some (Ok.bind (Ok.some (Ok.bind (Ok.some (Ok.bind (Ok.some (Ok.some ?_)))))))); rfl
theorem zw1 (t : GTime) : qp5 t = some (if ok t /\ lastT t ≠ qa5 t then (nxT t, true) else (z0, false)) := by
 unfold qp5; rw [TS.Right_eq]; refine Ok.eq (Ok.bind (Ok.some ?_))
 by_cases h : ok t
 .
  have hD := q9q h; rw [if_pos (by simp [h])]; obtain ⟨D, ⟨a0, a1, a2, a3⟩⟩ := t; have h' := h; unfold ok at h'; dsimp only at hD h' ⊢; unfold q8v; rcases hD with rfl | rfl | rfl | rfl
  .
   refine Ok.guard (by decide) ?_; refine Ok.bind (jh8 rfl ?_); refine Ok.bind (jh8 rfl ?_); refine jh5 (fun hx => ?_) (fun hx => ?_)
   . rw [if_neg (fun e => e.2 (by simpa [lastT, qa5] using hx))]; exact Ok.some rfl
   .
    rw [if_pos ⟨h, by simpa [lastT, qa5] using hx⟩]; refine Ok.guard (by decide) ?_; refine Ok.bind (jh8 rfl ?_); refine Ok.guard (by decide) ?_; refine Ok.bind (Ok.some (Ok.bind (Ok.some (Ok.bind (Ok.some (Ok.bind (Ok.some ?_)))))))
    show Ok (some ((⟨1, ⟨IntKind.i64.wrap (a0 + 1), a1, a2, a3⟩⟩ : GTime), true)) _
    rw [wrap_i64 _ (by omega)]; exact Ok.some rfl
  .
   refine Ok.guard (by decide) ?_; refine Ok.bind (jh8 rfl ?_); refine Ok.bind (jh8 rfl ?_); refine jh5 (fun hx => ?_) (fun hx => ?_)
   . rw [if_neg (fun e => e.2 (by simpa [lastT, qa5] using hx))]; exact Ok.some rfl
   .
    rw [if_pos ⟨h, by simpa [lastT, qa5] using hx⟩]; refine Ok.guard (by decide) ?_; refine Ok.bind (jh8 rfl ?_); refine Ok.guard (by decide) ?_; refine Ok.bind (Ok.some (Ok.bind (Ok.some (Ok.bind (Ok.some (Ok.bind (Ok.some ?_)))))))
    show Ok (some ((⟨2, ⟨a0, IntKind.i64.wrap (a1 + 1), a2, a3⟩⟩ : GTime), true)) _
    rw [wrap_i64 _ (by simp at h'; omega)]; exact Ok.some rfl
  .
   refine Ok.guard (by decide) ?_; refine Ok.bind (jh8 rfl ?_); refine Ok.bind (jh8 rfl ?_); refine jh5 (fun hx => ?_) (fun hx => ?_)
   . rw [if_neg (fun e => e.2 (by simpa [lastT, qa5] using hx))]; exact Ok.some rfl
   .
    rw [if_pos ⟨h, by simpa [lastT, qa5] using hx⟩]; refine Ok.guard (by decide) ?_; refine Ok.bind (jh8 rfl ?_); refine Ok.guard (by decide) ?_; refine Ok.bind (Ok.some (Ok.bind (Ok.some (Ok.bind (Ok.some (Ok.bind (Ok.some ?_)))))))
    show Ok (some ((⟨3, ⟨a0, a1, IntKind.i64.wrap (a2 + 1), a3⟩⟩ : GTime), true)) _
    rw [wrap_i64 _ (by simp at h'; omega)]; exact Ok.some rfl
  .
   refine Ok.guard (by decide) ?_; refine Ok.bind (jh8 rfl ?_); refine Ok.bind (jh8 rfl ?_); refine jh5 (fun hx => ?_) (fun hx => ?_)
   . rw [if_neg (fun e => e.2 (by simpa [lastT, qa5] using hx))]; exact Ok.some rfl
   .
    rw [if_pos ⟨h, by simpa [lastT, qa5] using hx⟩]; refine Ok.guard (by decide) ?_; refine Ok.bind (jh8 rfl ?_); refine Ok.guard (by decide) ?_; refine Ok.bind (Ok.some (Ok.bind (Ok.some (Ok.bind (Ok.some (Ok.bind (Ok.some ?_)))))))
    show Ok (some ((⟨4, ⟨a0, a1, a2, IntKind.i64.wrap (a3 + 1)⟩⟩ : GTime), true)) _
    rw [wrap_i64 _ (by simp at h'; omega)]; exact Ok.some rfl
 . rw [if_neg (by simp [h]), if_neg (by simp [h])]; exact Ok.some rfl
theorem zk6 {t : GTime} (h : ok t) (h4 : t.D ≠ 4) : ok (enT t) := by
 have hD := q9q h; obtain ⟨D, ⟨a0, a1, a2, a3⟩⟩ := t; unfold ok enT at *; dsimp only at *; rcases hD with rfl | rfl | rfl | rfl <;> simp at * <;> omega
theorem j1s {t : GTime} (h : ok t) (h1 : t.D ≠ 1) : ok (leT t) := by
 have hD := q9q h; obtain ⟨D, ⟨a0, a1, a2, a3⟩⟩ := t; unfold ok leT at *; dsimp only at *; rcases hD with rfl | rfl | rfl | rfl <;> simp at * <;> omega
theorem z8g {t : GTime} (h : ok t) (h1 : lastT t ≠ qa5 t) : ok (nxT t) := by
 have hD := q9q h; obtain ⟨D, ⟨a0, a1, a2, a3⟩⟩ := t; unfold ok nxT lastT qa5 at *; dsimp only at *; rcases hD with rfl | rfl | rfl | rfl <;> simp at * <;> omega
def okz (t : GTime) : Prop := ok t \/ t = z0
theorem zy2 : okz z0 := .inr rfl
end MN
end Go.Proofs.YteibkihbdgphnaaGreat
