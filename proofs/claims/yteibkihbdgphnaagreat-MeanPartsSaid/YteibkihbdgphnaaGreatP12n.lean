/-
  The law in plain words: what its plain function gives is true. No condition beyond those that each theorem names.
-/
import Derived.Test.YteibkihbdgphnaaGreatWalkMP0
import Derived.Test.YteibkihbdgphnaaGreatWalkMP1
import Derived.Test.YteibkihbdgphnaaGreatP12m
set_option linter.unusedSimpArgs false
set_option linter.unusedVariables false
set_option linter.unusedSectionVars false
namespace Go.Proofs.YteibkihbdgphnaaGreat
open Go Go.RowKit TS VA BG
namespace MN
open Classical
noncomputable def z3b (s : MS) (n : Int) (t : GTime) : List GItem := (s.past n).foldl (fun a c => if le c.Time t then q08 a (s.bags ⟨n, c.Time⟩) else a) []
theorem ql1 {α R : Type} (a : Option R) (b : α -> Option R) : qn3 none a b = a := rfl
theorem ql0 {α R : Type} (i : α) (a : Option R) (b : α -> Option R) : qn3 (some i) a b = b i := rfl
theorem j22 {R : Type} {body : (Unit -> Option R) -> Unit -> Option R} {v : R} (h : ∀ rec, body rec () = some v) : q05 body rounds () = some v := by
 unfold rounds q05; exact h _
theorem zd7 {α : Type} : ∀ {l m : List α}, l.Nodup -> (∀ x ∈ l, x ∈ m) -> l.length <= m.length
 | [], _, _, _ => Nat.zero_le _
 | x :: l, m, hn, h => by
  have hx := h x (by simp); have h1 := zd7 (l := l) (m := m.erase x) (List.nodup_cons.1 hn).2 fun y hy => (List.mem_erase_of_ne (a := y) (b := x) (fun e => (List.nodup_cons.1 hn).1 (by rw [<- e]; exact hy))).2 (h y (by simp [hy])); rw [List.length_erase_of_mem hx] at h1; have := List.length_pos_of_mem hx; simp only [List.length_cons]; omega
theorem zx2 {b : List GItem} (h : Fn b) : (b.map (·.Rec)).Nodup := by
 have := h.rt.inc; rw [List.Nodup, List.pairwise_map]; exact this.imp fun {x y} hl (e : x.Rec = y.Rec) => z0i x.Rec (by rw [<- e] at hl; exact hl)
theorem zw3 {g : GGraph} {T : Int} {r : GMean_runner} (hI : Inv g T r) (hT : T <= 7000) {n : Nat} (hn : n < 1000000) (t : GTime) :
  Ok (q10 r n t) fun v => v.2 = r /\ v.1 = z3b (ab r) n t /\ Fn v.1 /\ (v.1.length : Int) <= T := by
 have hnk := z9r (x := (n : Int)) (by omega) (by omega); have hT0 : 0 <= T := by have := hI.sums; have := hI.pot; omega
 unfold q10
 cases hf : q2u r.past.1 (n : Int) with
 | none =>
  rw [ql1]; refine Ok.guard hnk ?_; have h0 : (ab r).past n = [] := q92 (q96 hf); rw [j22 (v := (([] : List GItem), r)) fun rec => by unfold q40; simp]; exact Ok.some ⟨rfl, by unfold z3b; rw [h0]; rfl, Fn.nil, by simpa using hT0⟩
 | some i =>
  obtain ⟨hi, ha, hg, hm⟩ := qb8 (d := []) hI.pl hf; rw [ql0]; rw [ha]; refine Ok.bind (Ok.some ?_); have hL : (ab r).past n = look r.past [] (n : Int) := rfl; unfold z3b; rw [hL]
  generalize look r.past [] (n : Int) = L at hm
  have hLl : (L.length : Int) <= T := by
   have h1 := (z5g (f := fun l : List GCount => (l.length : Int)) (fun y _ => by omega) L hm).1; have h2 := hI.sums.1; have := hI.pot; omega
  have hall : ∀ b ∈ r.bags.2, 0 <= tot b := fun b hb => by have := (hI.bbag b hb).1.len; omega
  let all := (r.bags.2.flatMap fun b => b.map (·.Rec))
  have hal : (all.length : Int) <= T := by
   have h1 : (all.length : Int) <= (r.bags.2.map tot).sum := by
    have : ∀ l : List (List GItem), (∀ b ∈ l, Fn b) -> ((l.flatMap fun b => b.map (·.Rec)).length : Int) <= (l.map tot).sum := by
     intro l
     induction l with
     | nil => intro _; simp
     | cons b l ih =>
      intro h; have h1 := (h b (by simp)).len; have h2 := ih fun c hc => h c (by simp [hc]); simp only [List.flatMap_cons, List.length_append, List.length_map, List.map_cons, List.sum_cons]; omega
    exact this _ fun b hb => (hI.bbag b hb).1
   have := hI.pot3; have := hI.sums.1; omega
  refine jh9 (l := L) (by omega) (fun i a => a = (L.take i).foldl (fun a c => if le c.Time t then q08 a ((ab r).bags ⟨n, c.Time⟩) else a) [] /\ Fn a /\ tot a <= i * 7000 /\ ∀ x ∈ a, x.Rec ∈ all) 0 (fun rec i hi a _ hI2 hrec => ?_) (fun rec a hI2 => ?_) ⟨by simp, Fn.nil, by simp [tot], by simp⟩ (Nat.zero_le _)
  .
   obtain ⟨h1, h2, h3, h4⟩ := hI2; unfold q2n; dsimp only; rw [if_pos (by simpa using hi), iw hi (by omega)]; refine Ok.bind (jh6 hi ?_); rw [TS.le_eq]; have hfold : (L.take (i + 1)).foldl (fun a c => if le c.Time t then q08 a ((ab r).bags ⟨n, c.Time⟩) else a) [] = if le L[i].Time t then q08 a ((ab r).bags ⟨n, L[i].Time⟩) else a := by
    rw [List.take_succ_eq_append_getElem hi, List.foldl_append, <- h1]; rfl
   have h3' : tot a <= (i + 1 : Nat) * 7000 := by push_cast; omega
   refine Ok.bind (Ok.some (jh5 (fun hle => ?_) (fun hle => ?_)))
   .
    have hle : le L[i].Time t := by simpa using hle
    rw [if_pos hle] at hfold; have hok : Key.okb (⟨n, L[i].Time⟩ : GMean_point) = true := z6w ⟨by omega, by omega⟩ (hI.ptm _ hm _ (List.getElem_mem hi)); have hbl : ∀ b, b = (ab r).bags ⟨n, L[i].Time⟩ -> Fn b -> tot b <= T -> (∀ x ∈ b, x.Rec ∈ all) -> Ok (q9 (q4g a b) fun v_12 => rec (((i + 1 : Nat) : Int), v_12)) fun v => v.2 = r /\ v.1 = L.foldl (fun a c => if le c.Time t then q08 a ((ab r).bags ⟨n, c.Time⟩) else a) [] /\ Fn v.1 /\ (v.1.length : Int) <= T := by
     intro b hb hb1 hb2 hb3; have hi7 : (i : Int) < 7000 := by omega
     obtain ⟨p1, p2, p3, p4⟩ := q1x h2 hb1 (by omega); rw [p1]; refine Ok.bind (Ok.some (hrec _ ⟨by rw [hfold, hb], p2, by push_cast; omega, fun x hx => ?_⟩)); have hc := z0t p2.rt.inc hx; rw [p4] at hc; have hpos := p2.pos x hx
     by_cases hca : cnt a x.Rec = 0
     . obtain ⟨y, hy, he⟩ := z7m (b := b) (r := x.Rec) (by omega); rw [<- he]; exact hb3 y hy
     . obtain ⟨y, hy, he⟩ := z7m hca; rw [<- he]; exact h4 y hy
    cases hf2 : q2u r.bags.1 (⟨n, L[i].Time⟩ : GMean_point) with
    | none =>
     rw [ql1]; refine Ok.guard hok ?_; exact hbl [] (q92 (q96 hf2)).symm Fn.nil (by simp [tot]; exact hT0) (by simp)
    | some j =>
     obtain ⟨_, ha2, _, hm2⟩ := qb8 (d := []) hI.bl hf2; rw [ql0]; rw [ha2]; refine Ok.bind (Ok.some ?_); refine hbl _ rfl (hI.bbag _ hm2).1 (hI.bbag _ hm2).2 fun x hx => ?_; exact List.mem_flatMap.2 ⟨_, hm2, List.mem_map.2 ⟨x, hx, rfl⟩⟩
   .
    have hle : ¬ le L[i].Time t := by simpa using hle
    rw [if_neg hle] at hfold; exact hrec _ ⟨hfold.symm, h2, h3', h4⟩
  .
   obtain ⟨h1, h2, h3, h4⟩ := hI2; unfold q2n; dsimp only; rw [if_neg (by simp)]; rw [List.take_length] at h1; refine Ok.some ⟨rfl, h1, h2, ?_⟩; have := zd7 (zx2 h2) (m := all) fun y hy => by
    obtain ⟨x, hx, rfl⟩ := List.mem_map.1 hy; exact h4 x hx
   rw [List.length_map] at this; dsimp only; omega
end MN
end Go.Proofs.YteibkihbdgphnaaGreat
