/-
  The law in plain words: what its plain function gives is true. No condition beyond those that each theorem names.
-/
import Derived.Test.YteibkihbdgphnaaGreatWalkMP1
import Derived.Test.YteibkihbdgphnaaGreatWalkMP0
import Derived.Test.YteibkihbdgphnaaGreatP12l
set_option linter.unusedSimpArgs false
set_option linter.unusedVariables false
set_option linter.unusedSectionVars false
open List renaming getElem?_eq_getElem -> Xa, mem_of_getElem? -> Xc, mem_cons -> Xd, set_cons_zero -> Xe
open Option renaming map_eq_some_iff -> Xb
open Bool renaming and_eq_true -> Xf
namespace Go.Proofs.YteibkihbdgphnaaGreat
open Go Go.RowKit TS VA BG
namespace MN
open Classical
section
variable {α β : Type} [Key α]
def look (m : List α × List β) (d : β) (k : α) : β := match q2u m.1 k with
 | none => d
 | some i => m.2.getD i d
theorem q76 (x : α) (r : List α) (v : β) (q : List β) (d : β) (k : α) : look (x :: r, v :: q) d k = if x = k then v else look (r, q) d k := by
 unfold look; simp only [q2u]
 by_cases h : x = k
 . rw [if_pos (Key.keq_iff.2 h), if_pos h]; rfl
 .
  rw [if_neg (fun e => h (Key.keq_iff.1 e)), if_neg h]
  cases q2u r k with
  | none => rfl
  | some i => simp only [Option.map_some, List.getD_cons_succ]
theorem z6e : ∀ {ks : List α} {k : α}, k ∉ ks -> q2u ks k = none
 | [], _, _ => rfl
 | x :: r, k, h => by
  simp only [Xd, not_or] at h; unfold q2u; rw [if_neg (fun e => h.1 (Key.keq_iff.1 e).symm), z6e h.2]; rfl
theorem q92 {m : List α × List β} {d : β} {k : α} (h : k ∉ m.1) : look m d k = d := by unfold look; rw [z6e h]
theorem j23 {m : List α × List β} {d : β} {k : α} {i : Nat} (h : q2u m.1 k = some i) : look m d k = m.2.getD i d := by unfold look; rw [h]
theorem z7b : ∀ {ks : List α} {vs : List β} {d : β} {k : α}, ks.length = vs.length -> k ∈ ks -> look (ks, vs) d k ∈ vs
 | [], _, _, _, _, h => by simp at h
 | x :: r, v :: q, d, k, hl, h => by
  rw [q76]
  split
  . simp
  .
   rename_i hx
   have : k ∈ r := by rcases Xd.1 h with rfl | h; exact absurd rfl hx; exact h
   exact List.mem_cons_of_mem _ (z7b (by simpa using hl) this)
 | _ :: _, [], _, _, hl, _ => by simp at hl
theorem z7c : ∀ {ks : List α} {vs : List β} {d : β} {k q : α} {x : β}, ks.length = vs.length -> k ∉ ks -> look (ks ++ [k], vs ++ [x]) d q = if q = k then x else look (ks, vs) d q
 | [], [], d, k, q, x, _, _ => by
  simp only [List.nil_append]; rw [q76]
  by_cases h : k = q
  . rw [if_pos h, if_pos h.symm]
  . rw [if_neg h, if_neg (fun e => h e.symm)]
 | y :: r, v :: p, d, k, q, x, hl, hk => by
  simp only [Xd, not_or] at hk; simp only [List.cons_append]; rw [q76, q76, z7c (by simpa using hl) hk.2]
  by_cases h : y = q
  . rw [if_pos h, if_neg (fun e => hk.1 (by rw [h, e])), if_pos h]
  . rw [if_neg h, if_neg h]
 | [], _ :: _, _, _, _, _, hl, _ => by simp at hl
 | _ :: _, [], _, _, _, _, hl, _ => by simp at hl
theorem z7a : ∀ {ks : List α} {vs : List β} {d : β} {k q : α} {x : β} {i : Nat}, ks.length = vs.length -> q2u ks k = some i -> look (ks, vs.set i x) d q = if q = k then x else look (ks, vs) d q
 | [], _, _, _, _, _, _, _, h => by cases h
 | _ :: _, [], _, _, _, _, _, hl, _ => by simp at hl
 | y :: r, v :: p, d, k, q, x, i, hl, h => by
  unfold q2u at h
  split at h
  .
   rename_i hy
   have hy := Key.keq_iff.1 hy
   cases h
   rw [Xe, q76, q76, hy]
   by_cases hq : k = q
   . rw [if_pos hq, if_pos hq.symm]
   . rw [if_neg hq, if_neg (fun e => hq e.symm), if_neg hq]
  .
   rename_i hy
   simp only [Xb] at h; obtain ⟨j, hj, rfl⟩ := h; rw [List.set_cons_succ, q76, q76, z7a (by simpa using hl) hj]
   by_cases hq : y = q
   . rw [if_pos hq, if_neg (fun e => hy (Key.keq_iff.2 (by rw [hq, e]))), if_pos hq]
   . rw [if_neg hq, if_neg hq]
theorem zl5 : ∀ {ks : List α} {vs : List β} {d : β} {k q : α} {i : Nat}, ks.length = vs.length -> ks.Nodup -> q2u ks k = some i -> look (ks.eraseIdx i, vs.eraseIdx i) d q = if q = k then d else look (ks, vs) d q
 | [], _, _, _, _, _, _, _, h => by cases h
 | _ :: _, [], _, _, _, _, hl, _, _ => by simp at hl
 | y :: r, v :: p, d, k, q, i, hl, hn, h => by
  have hyr := (List.nodup_cons.1 hn).1; unfold q2u at h
  split at h
  .
   rename_i hy
   have hy := Key.keq_iff.1 hy
   cases h
   simp only [List.eraseIdx_cons_zero]; rw [q76]
   by_cases hq : q = k
   . rw [if_pos hq, q92 (by rw [hq, <- hy]; exact hyr)]
   . rw [if_neg hq, if_neg (fun e => hq (by rw [<- e, hy]))]
  .
   rename_i hy
   simp only [Xb] at h; obtain ⟨j, hj, rfl⟩ := h; simp only [List.eraseIdx_cons_succ]; rw [q76, q76, zl5 (by simpa using hl) (List.nodup_cons.1 hn).2 hj]
   by_cases hq : y = q
   . rw [if_pos hq, if_neg (fun e => hy (Key.keq_iff.2 (by rw [hq, e]))), if_pos hq]
   . rw [if_neg hq, if_neg hq]
theorem zj1 {vs : List β} {n : Nat} (h : n = vs.length) (a b : β) : (vs ++ [a]).set n b = vs ++ [b] := by
 subst h; rw [List.set_append_right _ _ (Nat.le_refl _), Nat.sub_self, Xe]
theorem qb8 {m : List α × List β} {d : β} {k : α} {i : Nat} (hl : m.1.length = m.2.length) (h : q2u m.1 k = some i) : i < m.2.length /\ atK m.2 i = some (look m d k) /\ m.2[i]? = some (look m d k) /\ look m d k ∈ m.2 := by
 have h1 := (List.getElem?_eq_some_iff.1 (qz4 h)).1; have h2 : i < m.2.length := by omega
 have h3 : m.2[i]? = some (look m d k) := by rw [j23 h, List.getD_eq_getElem?_getD, Xa h2]; rfl
 exact ⟨h2, h3, h3, Xc h3⟩
theorem j2f {ks : List α} {k : α} {i : Nat} (h : q2u ks k = some i) : k ∈ ks := Xc (qz4 h)
end
theorem j71 {b : List GItem} (h : Fn b) (hl : tot b <= 100000000) : qm6 b = some (tot b) := by
 have hp := h.len; unfold qm6; refine Ok.eq (jh7 (fun s => ∃ i : Nat, s = (tot (b.take i), (i : Int)) /\ i <= b.length) (fun s => b.length - s.2.toNat) ?_ ⟨0, by simp [tot], Nat.zero_le _⟩ (by simp only [rounds]; omega)); rintro rec _ ⟨i, rfl, hi⟩ hrec; unfold qu2; dsimp only; refine jh5 (fun hx => ?_) (fun hx => Ok.some ?_)
 .
  have hi' : i < b.length := by simpa using hx
  have h1 := z2q h.pos (i + 1); have h3 := z6m hi'; refine Ok.bind (jh6 hi' ?_); rw [<- h3, wrap_i64 (tot (b.take (i + 1))) (by omega), wrap_i64 ((i : Int) + 1) (by omega)]; exact hrec _ ⟨i + 1, rfl, hi'⟩ (by simp only; omega)
 .
  obtain rfl : i = b.length := by simp at hx; omega
  rw [List.take_length]
def dep (g : GGraph) (s : Int) : Nat := (anc g.Parent s).length
def lev (g : GGraph) (n : Nat) : Nat := dep g (qf7 g (nd g n))
def PtM (g : GGraph) (p : GMean_point) : Prop := ∃ n : Nat, n < g.Nodes.length /\ p.node = (n : Int) /\ ok p.time /\ p.time.D = (lev g n : Int)
theorem z6w {n : Int} {t : GTime} (hn : 0 <= n /\ n < 1000000) (ht : ok t) : Key.okb (⟨n, t⟩ : GMean_point) = true := by
 obtain ⟨a, b, c, d, e, f⟩ := ht
 show (Key.okb n && Key.okb t.D && Key.okb t.C.a0 && Key.okb t.C.a1 && Key.okb t.C.a2 && Key.okb t.C.a3) = true
 have : ∀ x : Int, 0 <= x -> x <= 1048576 -> Key.okb x = true := fun x h1 h2 => by
  show (decide (-9223372036854775808 <= x) && decide (x < 9223372036854775808)) = true
  rw [Xf]; exact ⟨decide_eq_true (by omega), decide_eq_true (by omega)⟩
 rw [this n (by omega) (by omega), this t.D (by omega) (by omega), this _ c.1 c.2, this _ d.1 (by have := d.2; split at this <;> omega), this _ e.1 (by have := e.2; split at this <;> omega), this _ f.1 (by have := f.2; split at this <;> omega)]; rfl
theorem z9r {x : Int} (h1 : 0 <= x) (h2 : x <= 1048576) : Key.okb x = true := by
 show (decide (-9223372036854775808 <= x) && decide (x < 9223372036854775808)) = true
 rw [Xf]; exact ⟨decide_eq_true (by omega), decide_eq_true (by omega)⟩
theorem PtM.okb {g : GGraph} (hG : VA.Good g) {p : GMean_point} (h : PtM g p) : Key.okb p = true := by
 obtain ⟨n, hn, h1, h2, _⟩ := h; have := hG.nl; exact z6w (n := p.node) (t := p.time) (by omega) h2
structure MS where
 ins : GMean_point -> Arr2 (List GItem)
 past : Int -> List GCount
 bags : GMean_point -> List GItem
 work : Int
 outs : List GOut
 e : Int
def no2 : Arr2 (List GItem) := ⟨[], []⟩
def ab (r : GMean_runner) : MS := ⟨look r.ins no2, look r.past [], look r.bags [], r.work, r.outs, r.e⟩
structure Inv (g : GGraph) (T : Int) (r : GMean_runner) : Prop where
 gr : r.g = g
 il : r.ins.1.length = r.ins.2.length
 ind : r.ins.1.Nodup
 ipt : ∀ p ∈ r.ins.1, PtM g p
 ibag : ∀ x ∈ r.ins.2, Fn x.a0 /\ Fn x.a1 /\ 1 <= bt x
 pl : r.past.1.length = r.past.2.length
 pnd : r.past.1.Nodup
 bl : r.bags.1.length = r.bags.2.length
 bnd : r.bags.1.Nodup
 bbag : ∀ b ∈ r.bags.2, Fn b /\ tot b <= T
 pot : (r.ins.2.map bt).sum + (r.past.2.map fun l => (l.length : Int)).sum + r.outs.length <= T
 ptm : ∀ l ∈ r.past.2, ∀ c ∈ l, ok c.Time
 pot3 : (r.ins.2.map bt).sum + (r.bags.2.map tot).sum <= T
noncomputable def q08 (a b : List GItem) : List GItem := (q4g a b).getD []
theorem q1x {a b : List GItem} (ha : Fn a) (hb : Fn b) (h : tot a + tot b <= 50000000) : q4g a b = some (q08 a b) /\ Fn (q08 a b) /\ tot (q08 a b) = tot a + tot b /\ ∀ x, cnt (q08 a b) x = cnt a x + cnt b x := by
 obtain ⟨c, h1, h2, h3⟩ := j7u ha hb h; have : q08 a b = c := by unfold q08; rw [h1]; rfl
 rw [this]; exact ⟨h1, h2, h3⟩
noncomputable def upd {α β : Type} (f : α -> β) (k : α) (x : β) : α -> β := fun q => if q = k then x else f q
noncomputable def q7o (v : Arr2 (List GItem)) (port : Int) (b : List GItem) : Arr2 (List GItem) := if port = 0 then ⟨q08 v.a0 b, v.a1⟩ else ⟨v.a0, q08 v.a1 b⟩
noncomputable def q4h (s : MS) (q : GMean_point) (port : Int) (b : List GItem) : MS :=
 if b = [] then s else { s with ins := upd s.ins q (q7o (s.ins q) port b) }
theorem Inv.sums {g : GGraph} {T : Int} {r : GMean_runner} (h : Inv g T r) : 0 <= (r.ins.2.map bt).sum /\ 0 <= (r.past.2.map fun l => (l.length : Int)).sum /\ ∀ x ∈ r.ins.2, bt x <= T := by
 have h1 := j1b fun x hx => (h.ibag x hx).2.2; have h2 : 0 <= (r.past.2.map fun l => (l.length : Int)).sum := by
  generalize r.past.2 = L
  induction L with
  | nil => simp
  | cons a L ih => simp only [List.map_cons, List.sum_cons]; omega
 refine ⟨by omega, h2, fun x hx => ?_⟩; have h3 := (z5g (f := bt) (fun y hy => by have := (h.ibag y hy).2.2; omega) x hx).1; have := h.pot; omega
theorem zv1 {g : GGraph} (hG : VA.Good g) {T : Int} {r : GMean_runner} (hI : Inv g T r) {n : Int} {t : GTime} (hq : PtM g ⟨n, t⟩) {port : Int} (hp : port = 0 \/ port = 1) {b : List GItem} (hb : Fn b) (hT : T <= 10000000) (hbt : tot b <= 65536) :
  Ok (q2x r n port t b) fun v => Inv g (T + tot b) v /\ ab v = q4h (ab r) ⟨n, t⟩ port b /\ v.most = r.most /\ v.work = r.work := by
 have hok := hq.okb hG; have hbl := hb.len; have hpt := hI.pot; unfold q2x q4h; refine jh5 (fun h => Ok.some ?_) (fun h => ?_)
 .
  have hb0 : b = [] := by simpa using h
  subst hb0; rw [if_pos rfl]; exact ⟨by simpa [tot] using hI, rfl, rfl, rfl⟩
 have hb0 : b ≠ [] := by simpa using h
 rw [if_neg hb0]; have hb1 := zs9 hb hb0; have hports : 0 <= port /\ port < 2 := by omega
 cases hf : q2u r.ins.1 (⟨n, t⟩ : GMean_point) with
 | none =>
  have hni := q96 hf; obtain ⟨p1, p2, p3, _⟩ := q1x Fn.nil hb (by simp [tot]; simp [tot] at hbt; omega); have hz : tot ([] : List GItem) = 0 := by simp [tot]
  unfold qn3; refine Ok.guard hok (Ok.guard hports ?_); have fin : ∀ w : Arr2 (List GItem), w = q7o no2 port b -> Ok (some (⟨r.g, (Prod.mk (r.ins.1 ++ [(⟨n, t⟩ : GMean_point)]) (List.set (r.ins.2 ++ [no2]) (List.length r.ins.1) w)), r.past, r.bags, r.work, r.most, r.outs, r.e⟩ : GMean_runner)) fun v => Inv g (T + tot b) v /\ ab v = { ab r with ins := upd (ab r).ins ⟨n, t⟩ (q7o ((ab r).ins ⟨n, t⟩) port b) } /\ v.most = r.most /\ v.work = r.work := by
   rintro w rfl; have hw : Fn (q7o no2 port b).a0 /\ Fn (q7o no2 port b).a1 /\ bt (q7o no2 port b) = tot b := by
    unfold q7o bt no2; rcases hp with rfl | rfl
    . rw [if_pos rfl]; exact ⟨p2, Fn.nil, by rw [p3]; simp only [hz]; omega⟩
    . rw [if_neg (by omega)]; exact ⟨Fn.nil, p2, by rw [p3]; simp only [hz]; omega⟩
   rw [zj1 hI.il]; refine Ok.some ⟨⟨hI.gr, by simp [hI.il], ?_, ?_, ?_, hI.pl, hI.pnd, hI.bl, hI.bnd, fun x hx => ⟨(hI.bbag x hx).1, by have := (hI.bbag x hx).2; omega⟩, ?_, hI.ptm, ?_⟩, ?_, rfl, rfl⟩
   . exact List.nodup_append.2 ⟨hI.ind, by simp, fun a ha c hc e => hni (by simp at hc; rw [<- hc, <- e]; exact ha)⟩
   .
    intro p hp'; rcases List.mem_append.1 hp' with h | h
    . exact hI.ipt p h
    . simp at h; rw [h]; exact hq
   .
    intro x hx; rcases List.mem_append.1 hx with h | h
    . exact hI.ibag x h
    . simp at h; rw [h]; exact ⟨hw.1, hw.2.1, by rw [hw.2.2]; exact hb1⟩
   . rw [z9k, hw.2.2]; dsimp only; omega
   . rw [z9k, hw.2.2]; have := hI.pot3; dsimp only; omega
   .
    unfold ab; simp only [MS.mk.injEq, and_true]
    funext q
    rw [z7c hI.il hni]; unfold upd; rw [show look r.ins no2 ⟨n, t⟩ = no2 from q92 hni]
  rcases hp with rfl | rfl
  . refine Ok.bind (Ok.some ?_); rw [p1]; refine Ok.bind (Ok.some (Ok.guard hports (Ok.bind (Ok.some (Ok.bind (Ok.some ?_)))))); exact fin _ (by simp [q7o, no2])
  . refine Ok.bind (Ok.some ?_); rw [p1]; refine Ok.bind (Ok.some (Ok.guard hports (Ok.bind (Ok.some (Ok.bind (Ok.some ?_)))))); exact fin _ (by simp [q7o, no2])
 | some i =>
  obtain ⟨hi, ha, hg, hm⟩ := qb8 (d := no2) hI.il hf; obtain ⟨f0, f1, f2⟩ := hI.ibag _ hm; have hbT := hI.sums.2.2 _ hm; have z0 := f0.len; have z1 := f1.len; unfold qn3; dsimp only; rw [ha]; refine Ok.bind (Ok.some (Ok.guard hports ?_))
  generalize hv : look r.ins no2 (⟨n, t⟩ : GMean_point) = v at *
  have hvT : tot v.a0 + tot v.a1 <= T := hbT; obtain ⟨p1, p2, p3, _⟩ := q1x f0 hb (by omega); obtain ⟨q1, q2, q3, _⟩ := q1x f1 hb (by omega); have fin : ∀ w : Arr2 (List GItem), w = q7o v port b -> Ok (some (⟨r.g, (Prod.mk r.ins.1 (List.set r.ins.2 i w)), r.past, r.bags, r.work, r.most, r.outs, r.e⟩ : GMean_runner)) fun v => Inv g (T + tot b) v /\ ab v = { ab r with ins := upd (ab r).ins ⟨n, t⟩ (q7o ((ab r).ins ⟨n, t⟩) port b) } /\ v.most = r.most /\ v.work = r.work := by
   rintro w rfl; have hw : Fn (q7o v port b).a0 /\ Fn (q7o v port b).a1 /\ bt (q7o v port b) = bt v + tot b := by
    unfold q7o bt; rcases hp with rfl | rfl
    . rw [if_pos rfl]; exact ⟨p2, f1, by rw [p3]; dsimp only; omega⟩
    . rw [if_neg (by omega)]; exact ⟨f0, q2, by rw [q3]; dsimp only; omega⟩
   have hgi : r.ins.2[i] = v := by rw [Xa hi] at hg; exact Option.some.inj hg
   refine Ok.some ⟨⟨hI.gr, by simp [hI.il], hI.ind, hI.ipt, ?_, hI.pl, hI.pnd, hI.bl, hI.bnd, fun x hx => ⟨(hI.bbag x hx).1, by have := (hI.bbag x hx).2; omega⟩, ?_, hI.ptm, ?_⟩, ?_, rfl, rfl⟩
   .
    intro x hx; rcases List.mem_or_eq_of_mem_set hx with h | rfl
    . exact hI.ibag x h
    . exact ⟨hw.1, hw.2.1, by rw [hw.2.2]; omega⟩
   . rw [z5f hi, hw.2.2, hgi]; dsimp only; omega
   . rw [z5f hi, hw.2.2, hgi]; have := hI.pot3; dsimp only; omega
   .
    unfold ab; simp only [MS.mk.injEq, and_true]
    funext q
    rw [z7a hI.il hf]; unfold upd; rw [hv]
  rcases hp with rfl | rfl
  . refine Ok.bind (Ok.some ?_); rw [p1]; refine Ok.bind (Ok.some (Ok.guard hports (Ok.bind (Ok.some (Ok.bind (Ok.some ?_)))))); exact fin _ (by simp [q7o])
  . refine Ok.bind (Ok.some ?_); rw [q1]; refine Ok.bind (Ok.some (Ok.guard hports (Ok.bind (Ok.some (Ok.bind (Ok.some ?_)))))); exact fin _ (by simp [q7o])
end MN
end Go.Proofs.YteibkihbdgphnaaGreat
