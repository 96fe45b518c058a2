/-
  The law in plain words: what its plain function gives is true. No condition beyond those that each theorem names.
-/
import Derived.Test.YtaiccbgcgcfhfaaGreatWalkWL1
import Derived.Test.YtaiccbgcgcfhfaaGreatP12o
set_option linter.unusedSimpArgs false
set_option linter.unusedVariables false
set_option linter.unusedSectionVars false
open List renaming mem_of_mem_eraseIdx -> Xa, length_eraseIdx -> Xb
namespace Go.Proofs.YtaiccbgcgcfhfaaGreat
open Go Go.RowKit TS VA BG
namespace MN
open Classical
structure Put {α β : Type} [Key α] (m m' : List α × List β) (d : β) (k : α) (x : β) : Prop where
 len : m'.1.length = m'.2.length
 nd : m'.1.Nodup
 look : look m' d = upd (look m d) k x
 mem : ∀ y ∈ m'.2, y ∈ m.2 \/ y = x
 sum : ∀ f : β -> Int, f d = 0 -> (m'.2.map f).sum = (m.2.map f).sum - f (MN.look m d k) + f x
section
variable {α β : Type} [Key α]
end
theorem j1m {g : GGraph} {C most : Int} {r : GMean_runner} (hS : St g C most r) {n : Nat} {t : GTime} {i : Nat} (hf : q45 r.ins.1 (⟨n, t⟩ : GMean_point) = some i) {past : List Int × List (List GCount)} {bags : List GMean_point × List (List GItem)} {k : Int} (hpl : past.1.length = past.2.length) (hpn : past.1.Nodup) (hbl : bags.1.length = bags.2.length) (hbn : bags.1.Nodup)
  (hps : (past.2.map fun l => (l.length : Int)).sum = (r.past.2.map fun l => (l.length : Int)).sum + k) (hk : k <= 1) (hbs : (bags.2.map tot).sum <= (r.bags.2.map tot).sum + tot ((ab r).ins ⟨n, t⟩).a0) (hpt : ∀ l ∈ past.2, ∀ c ∈ l, ok c.Time) (hbb : ∀ b ∈ bags.2, Fn b /\ tot b <= C + r.work) :
  St g C most ⟨r.g, (r.ins.1.eraseIdx i, r.ins.2.eraseIdx i), past, bags, r.work, r.most, r.outs, r.e⟩ /\ ((r.ins.2.eraseIdx i).map bt).sum + bt ((ab r).ins ⟨n, t⟩) = (r.ins.2.map bt).sum := by
 have hI := hS.inv; obtain ⟨hi, _, hg, hm⟩ := z7i (d := no2) hI.il hf; have hv := hI.ibag _ hm; have hgi : r.ins.2[i] = (ab r).ins ⟨n, t⟩ := by rw [List.getElem?_eq_getElem hi] at hg; exact Option.some.inj hg
 have hse := zb4 (f := bt) hi; rw [hgi] at hse; have hv1 : 1 <= bt ((ab r).ins ⟨n, t⟩) := hv.2.2; have hv2 : tot ((ab r).ins ⟨n, t⟩).a0 <= bt ((ab r).ins ⟨n, t⟩) := by
  have := hv.2.1.len
  show tot _ <= tot _ + tot _
  have : 0 <= tot ((ab r).ins ⟨n, t⟩).a1 := by have := hv.2.1.len; show 0 <= tot (look r.ins no2 _).a1; omega
  omega
 have h1 := hI.pot; have h3 := hI.pot3; refine ⟨⟨⟨hI.gr, ?_, (List.eraseIdx_sublist _ _).nodup hI.ind, fun p hp => hI.ipt p (Xa hp), fun x hx => hI.ibag x (Xa hx), hpl, hpn, hbl, hbn, hbb, ?_, hpt, ?_⟩, hS.mo, hS.w0, hS.wm, hS.wx⟩, by omega⟩
 . have hl := hI.il; dsimp only; rw [Xb, Xb, hl]
 . dsimp only; omega
 . dsimp only; omega
theorem j87 {g : GGraph} (hG : VA.Good g) {C most : Int} (hC : 0 <= C) (hmo : 0 <= most) (hCm : C + most <= 7000) {r : GMean_runner} (hS : St g C most r) {n : Nat} (hn : n < g.Nodes.length) (hlin : OP.linS (nd g n).Kind = true) {t : GTime} (ht : okz t) :
  Ok (q3s r n t) fun v => v.1 = (q0t g most (ab r) n t).1 /\ St g C most v.2 /\ ab v.2 = (q0t g most (ab r) n t).2 := by
 have hI := hS.inv; have hnl := hG.nl; have hok : Key.okb (⟨n, t⟩ : GMean_point) = true := by
  rcases ht with ht | rfl
  . exact zk4 ⟨by omega, by omega⟩ ht
  .
   show (Key.okb (n : Int) && Key.okb (0 : Int) && Key.okb (0 : Int) && Key.okb (0 : Int) && Key.okb (0 : Int) && Key.okb (0 : Int)) = true
   rw [j7p (x := (n : Int)) (by omega) (by omega)]; decide
 unfold q3s
 cases hf : q45 r.ins.1 (⟨n, t⟩ : GMean_point) with
 | none =>
  rw [j0w]; refine Ok.guard hok ?_; have h0 : (ab r).ins ⟨n, t⟩ = no2 := z4k (qz3 hf); unfold q0t; rw [if_pos (.inl h0)]; exact Ok.some ⟨rfl, hS, rfl⟩
 | some i =>
  obtain ⟨hi, ha, hg, hm⟩ := z7i (d := no2) hI.il hf; have hpt : PtM g ⟨n, t⟩ := hI.ipt _ (j2t hf); have hv := hI.ibag _ hm; rw [j0v, ha]; have hL : look r.ins no2 ⟨n, t⟩ = (ab r).ins ⟨n, t⟩ := rfl; rw [hL] at hv ⊢; refine Ok.bind (Ok.some ?_); have hne : (ab r).ins ⟨n, t⟩ ≠ no2 := fun e => by rw [e] at hv; have := hv.2.2; simp [no2, bt, tot] at this
  refine jl0 (fun h => ?_) (fun h => ?_)
  .
   have h : r.e ≠ 0 := by simpa using h
   unfold q0t; rw [if_pos (.inr h)]; exact Ok.some ⟨rfl, hS, rfl⟩
  have he : r.e = 0 := by simpa using h
  have hwm := hS.wm he; unfold q0t; rw [if_neg (fun h => h.elim hne (fun h => h he))]; rw [hI.gr]; refine Ok.bind (jl1 hn (Ok.guard (by decide) ?_)); rw [qd6 hn]; have hbm := hI.sums.2.2 _ hm; have hl0 := hv.1.len; have hl1 := hv.2.1.len; have hbt : bt ((ab r).ins ⟨n, t⟩) = tot ((ab r).ins ⟨n, t⟩).a0 + tot ((ab r).ins ⟨n, t⟩).a1 := rfl; have hbm' : bt ((ab r).ins ⟨n, t⟩) <= C + r.work := hbm; have hdel : look (r.ins.1.eraseIdx i, r.ins.2.eraseIdx i) no2 = upd (look r.ins no2) ⟨n, t⟩ no2 := by
   funext q; rw [zl8 hI.il hI.ind hf]; rfl
  refine jl0 (fun h14 => ?_) (fun h14 => ?_)
  .
   have h14 : (nd g n).Kind = 14 := by simpa using h14
   rw [h14] at hlin; exact absurd hlin (by decide)
  .
   have h14 : ¬ (nd g n).Kind = 14 := by simpa using h14
   rw [if_neg h14]; obtain ⟨hS', hsum⟩ := j1m hS hf (past := r.past) (bags := r.bags) (k := 0) hI.pl hI.pnd hI.bl hI.bnd (by omega) (by omega) (by omega) hI.ptm hI.bbag; have hab : ab ⟨g, (r.ins.1.eraseIdx i, r.ins.2.eraseIdx i), r.past, r.bags, r.work, r.most, r.outs, r.e⟩ = takeA g n t (ab r) := by
    unfold takeA; rw [if_neg h14]; unfold ab; simp only [MS.mk.injEq, and_true]; exact hdel
   rw [hI.gr] at hS'; have := j5z (b := ((ab r).ins ⟨n, t⟩).a1) hG hC hmo hCm hS' he hn hlin hpt hv.1 (by omega) (by omega) (.inl (by dsimp only; have := hI.pot; omega)); rw [hab] at this; exact this
end MN
end Go.Proofs.YtaiccbgcgcfhfaaGreat
