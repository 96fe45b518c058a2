/-
  The law in plain words: what its plain function gives is true. No condition beyond those that each theorem names.
-/
import Derived.Test.YtlpfoonihpdekaaGreatWalkWF1
import Derived.Test.YtlpfoonihpdekaaGreatP10k
set_option linter.unusedSimpArgs false
set_option linter.unusedVariables false
set_option linter.unusedSectionVars false
namespace Go.Proofs.YtlpfoonihpdekaaGreat
open Go Go.RowKit VA
namespace HP
open Classical
theorem z6s {α : Type} : ∀ {A B : List α}, A.Nodup → (∀ x ∈ A, x ∈ B) → A.length ≤ B.length
 | [], _, _, _ => by simp
 | a :: A, B, hd, h => by
  rw [List.nodup_cons] at hd; have ha := h a (by simp); have ih := z6s (A := A) (B := B.erase a) hd.2 (fun x hx => (List.mem_erase_of_ne (fun e : x = a => hd.1 (by rw [← e]; exact hx))).2 (h x (by simp [hx]))); rw [List.length_erase_of_mem ha] at ih; have : 0 < B.length := List.length_pos_of_mem ha; simp only [List.length_cons]; omega
theorem z4z {L : List Hp} (h : anti L) : L.Nodup := by
 rw [List.nodup_iff_pairwise_ne]; exact List.Pairwise.imp (fun {a b} hab (he : a = b) => hab.1 (by rw [he]; exact q92 _)) h
def like (A B : List Hp) : Prop := (∀ x ∈ A, x ∈ B) ∧ ∀ x ∈ B, x ∈ A
theorem j29 {A B : List Hp} (ha : anti A) (hb : anti B) (h : like A B) : A.length = B.length := Nat.le_antisymm (z6s (z4z ha) h.1) (z6s (z4z hb) h.2)
theorem j4x {F : Int} {n : Nat} {A B : List Hp} (hA : ∀ p ∈ A, Rp F n p) (hB : ∀ p ∈ B, Rp F n p) (ha : anti A) (hb : anti B) (h1 : ∀ x ∈ A, cov B x) (h2 : ∀ x ∈ B, cov A x) : like A B := by
 refine ⟨fun x hx => ?_, fun y hy => ?_⟩
 · obtain ⟨y, hy, hyx⟩ := h1 x hx; obtain ⟨x', hx', hxy⟩ := h2 y hy; have he := zb1 ha hx' hx (q8w (hA _ hx').2 (hB _ hy).2 hxy hyx); subst he; rw [z4h (hA _ hx').2 (hB _ hy).2 hxy hyx]; exact hy
 · obtain ⟨x, hx, hxy⟩ := h2 y hy; obtain ⟨y', hy', hyx⟩ := h1 x hx; have he := zb1 hb hy' hy (q8w (hB _ hy').2 (hA _ hx).2 hyx hxy); subst he; rw [z4h (hB _ hy').2 (hA _ hx).2 hyx hxy]; exact hx
theorem zy9 {row : List (List Hp)} {v : Nat} {p : Hp} (h : p ∈ p9 row v) : v < row.length := by
 by_cases hv : v < row.length
 · exact hv
 · unfold p9 at h; rw [List.getD_eq_getElem?_getD, List.getElem?_eq_none (by omega)] at h; cases h
structure Pre (g : GGraph) (F : Int) (row nx : List (List Hp)) : Prop where
 len : nx.length = g.Nodes.length
 rp : ∀ v, ∀ p ∈ p9 nx v, Rp F (lev g v) p
 c0 : ∀ v, ∀ p ∈ p9 nx v, p.2.getD 0 0 = 0
 wi : ∀ v, lev g v = 4 → ∀ p ∈ p9 nx v, ∀ row', covRow row row' → Wit g.Nodes.length (lev g) row' p
 sn : ∀ T, ClT g F T → covRow row T → covRow nx T
 up : ∀ v, ∀ p ∈ p9 row v, p ∈ p9 nx v
def B : Nat := 173015205
theorem zn3 : B = 173015205 := rfl
section
variable {g : GGraph} (hG : VA.Good g) {F : Int} {row : List (List Hp)} (R : Row F g.Nodes.length (lev g) row)
include hG R
omit hG R in
theorem j1s {row : List (List Hp)} {i : Nat} (hi : i < row.length) : (row.take i ++ List.replicate (row.length - i) []).set i (p9 row i) = row.take (i + 1) ++ List.replicate (row.length - (i + 1)) [] := by
 have htl : (row.take i).length = i := by rw [List.length_take]; omega
 rw [List.set_append_right _ _ (by omega), htl, Nat.sub_self]; obtain ⟨m, hm⟩ : ∃ m, row.length - i = m + 1 := ⟨row.length - i - 1, by omega⟩; rw [hm, List.replicate_succ, List.set_cons_zero, snoc hi, List.append_assoc, show row.length - (i + 1) = m by omega]; have : p9 row i = row[i] := by unfold p9; rw [List.getD_eq_getElem?_getD, List.getElem?_eq_getElem hi]; rfl
 rw [this]; rfl
theorem j6c {rec_1 : List (List GHop) → Option (List (List GHop))} {Q : List (List GHop) → Prop} (hk : Ok (q3n g (gh F row) rec_1 (gh F row)) Q) :
  Ok (w9 (q3o g (gh F row) rec_1) rounds (0, List.replicate g.Nodes.length ([] : List GHop))) Q := by
 have hn := hG.nl; have hrl := R.len; have h14 := qw8 hG; have hgl : (gh F row).length = row.length := by unfold gh; simp
 refine q3k (l := row) (by omega) (fun i (a : List (List GHop)) => (i, a)) (fun p => p.1) (fun _ _ => rfl) (fun i a => a = gh F (row.take i ++ List.replicate (row.length - i) [])) 0 (fun rec i hi a _ hI hr => ?_) (fun rec a hI => ?_) (by simp [gh, hrl]) (Nat.zero_le _)
 ·
  subst hI; have hlen : (row.take i ++ List.replicate (row.length - i) ([] : List Hp)).length = row.length := by simp; omega
  have hz : p9 (row.take i ++ List.replicate (row.length - i) ([] : List Hp)) i = [] := by
   unfold p9; rw [List.getD_eq_getElem?_getD, List.getElem?_append_right (by rw [List.length_take]; omega), List.getElem?_replicate]
   split <;> rfl
  have hsh := R.short (by omega) (fun v => (h14 v).2) i; unfold q3o; dsimp only; rw [if_pos (by rw [hgl]; simp only [decide_eq_true_eq]; omega), iw hi (by omega)]; refine Ok.bind (qe3 (by omega) (Ok.bind (qe3 hi ?_))); rw [hz, List.map_nil, List.nil_append, Int.toNat_natCast, z9c, j1s hi]; refine Ok.guard (by rw [List.length_map]; simp; omega) (hr _ rfl)
 · subst hI; unfold q3o; dsimp only; rw [if_neg (by rw [hgl]; simp), Nat.sub_self, List.replicate_zero, List.append_nil, List.take_length]; exact hk
theorem Pre.add {nx : List (List Hp)} (P : Pre g F row nx) {e : GEdge} (he : e ∈ g.Edges) {h : Hp} (hh : h ∈ p9 row e.From.toNat) (hR : Rh F (thp h (q0n g e)).1 (thp h (q0n g e)).2) :
  Pre g F row (nx.set e.To.toNat (p9 nx e.To.toNat ++ [thp h (q0n g e)])) := by
 obtain ⟨hf, ht, _⟩ := hG.ed.at he; have hfn : e.From.toNat < g.Nodes.length := by have := hf.1; have := hf.2; omega
 have htn : e.To.toNat < g.Nodes.length := by have := ht.1; have := ht.2; omega
 have hst : Rp (lev g e.From.toNat : Int) (lev g e.To.toNat) (q0n g e) := (z6t hG he).1; obtain ⟨k10, k11, k12, _⟩ := z4g hG hfn; have h14 := qw8 hG; obtain ⟨hrh, hln⟩ := R.rp _ _ hh; have hkf := hst.1.kf; have hkl := hst.1.kl; have hnl := P.len; have hxl : (thp h (q0n g e)).2.length = lev g e.To.toNat := by
  rw [← hst.2]
  show (th _ _ _).length = _
  rw [qd6 (by omega) hkl]
 have hmem : ∀ w p, p ∈ p9 (nx.set e.To.toNat (p9 nx e.To.toNat ++ [thp h (q0n g e)])) w → p ∈ p9 nx w ∨ w = e.To.toNat ∧ p = thp h (q0n g e) := fun w p hp => by
  rw [q9z (by omega)] at hp
  split at hp
  ·
   rename_i hw; subst hw
   rw [List.mem_append, List.mem_singleton] at hp; rcases hp with hp | hp
   · exact .inl hp
   · exact .inr ⟨rfl, hp⟩
  · exact .inl hp
 refine ⟨by rw [List.length_set]; exact hnl, fun w p hp => ?_, fun w p hp => ?_, fun w h4 p hp row' hc => ?_, fun T hT hc w z hz => ?_, fun w p hp => ?_⟩
 ·
  rcases hmem w p hp with hp | ⟨rfl, rfl⟩
  · exact P.rp w p hp
  · exact ⟨hR, hxl⟩
 ·
  rcases hmem w p hp with hp | ⟨rfl, rfl⟩
  · exact P.c0 w p hp
  · exact j0b R hh k11 k12 (h14 _).1
 ·
  rcases hmem w p hp with hp | ⟨rfl, rfl⟩
  · exact P.wi w h4 p hp row' hc
  ·
   exact zs2 R hfn hh k11 k12 (fun v => (h14 v).2) (h14 _).1 hc (by
    have := hst.2; unfold q0n at this; rw [this]; exact h4)
 ·
  obtain ⟨y, hy, hyz⟩ := hz; rcases hmem w y hy with hy | ⟨rfl, rfl⟩
  · exact P.sn T hT hc w z ⟨y, hy, hyz⟩
  ·
   obtain ⟨t, ht', htl⟩ := hc _ _ ⟨h, hh, q92 _⟩; obtain ⟨m1, m2⟩ := zh3 (hT.rp _ _ ht') (R.rp _ _ hh) rfl hst.1 htl hR; obtain ⟨q, hq, hql⟩ := hT.cl e he t ht' m1; have h5 := (hT.rp _ _ ht').2; refine ⟨q, hq, q8w (n := lev g e.To.toNat) (hT.rp _ _ hq).2 (b := thp t (q0n g e)) ?_ hql (q8w (n := lev g e.To.toNat) ?_ hxl m2 hyz)⟩
   · rw [← hst.2]; show (th _ _ _).length = _; rw [qd6 (by omega) hkl]
   · rw [← hst.2]; show (th _ _ _).length = _; rw [qd6 (by omega) hkl]
 ·
  rw [q9z (by omega)]
  split
  · rename_i hw; subst hw; exact List.mem_append_left _ (P.up _ p hp)
  · exact P.up w p hp
def Has (g : GGraph) (F : Int) (row nx : List (List Hp)) (e : GEdge) : Prop := ∀ h ∈ p9 row e.From.toNat, Rh F (thp h (q0n g e)).1 (thp h (q0n g e)).2 → thp h (q0n g e) ∈ p9 nx e.To.toNat
def sub (a b : List (List Hp)) : Prop := ∀ v, ∀ p ∈ p9 a v, p ∈ p9 b v
theorem j6b {rec_1 : List (List GHop) → Option (List (List GHop))} {Q : List (List GHop) → Prop} (hk : ∀ nx, Pre g F row nx → (∀ v, (p9 nx v).length ≤ 100 * B) → (∀ e ∈ g.Edges, Has g F row nx e) → Ok (q3m (gh F row) rec_1 (gh F nx)) Q) :
  Ok (q3n g (gh F row) rec_1 (gh F row)) Q := by
 have hn := hG.nl; have hel := hG.el; have hrl := R.len; have h14 := qw8 hG; have hshort := R.short (by omega) (fun v => (h14 v).2); have P0 : Pre g F row row := ⟨hrl, R.rp, R.c0, fun v h4 p hp row' hc => (R.wi v h4 p hp).mono hc, fun _ _ h => h, fun _ _ h => h⟩; unfold q3n; refine q3k (l := g.Edges) (by omega) (fun i (a : List (List GHop)) => (i, a)) (fun p => p.1) (fun _ _ => rfl) (fun i a => ∃ nx, a = gh F nx ∧ Pre g F row nx ∧ (∀ v, (p9 nx v).length ≤ (i + 1) * B) ∧ ∀ e ∈ g.Edges.take i, Has g F row nx e) 0 (fun rec i hi a _ hI hr => ?_) (fun rec a hI => ?_) ⟨row, rfl, P0, fun v => by have := hshort v; rw [zn3]; omega, by simp⟩ (Nat.zero_le _)
 ·
  obtain ⟨nx0, rfl, P, hb, hc⟩ := hI; have hm := List.getElem_mem hi; obtain ⟨hf, ht, _⟩ := hG.ed.at hm; have hfn : g.Edges[i].From.toNat < g.Nodes.length := by have := hf.1; have := hf.2; omega
  have htn : g.Edges[i].To.toNat < g.Nodes.length := by have := ht.1; have := ht.2; omega
  have htc : g.Edges[i].To = ((g.Edges[i].To.toNat : Nat) : Int) := by have := ht.1; omega
  have hfc : g.Edges[i].From = ((g.Edges[i].From.toNat : Nat) : Int) := by have := hf.1; omega
  have hst : Rp (lev g g.Edges[i].From.toNat : Int) (lev g g.Edges[i].To.toNat) (q0n g g.Edges[i]) := (z6t hG hm).1; have hsh := hshort g.Edges[i].From.toNat; unfold q3p; dsimp only; rw [if_pos (by simp only [decide_eq_true_eq]; omega)]; refine Ok.bind (ja0 hi ?_); refine q3k (l := p9 row g.Edges[i].From.toNat) (by omega) (fun k (a : List (List GHop)) => (k, a)) (fun p => p.1) (fun _ _ => rfl) (fun k a => ∃ nx, a = gh F nx ∧ Pre g F row nx ∧ (∀ v, (p9 nx v).length ≤ (i + 1) * B + k) ∧ sub nx0 nx ∧ ∀ h ∈ (p9 row g.Edges[i].From.toNat).take k, Rh F (thp h (q0n g g.Edges[i])).1 (thp h (q0n g g.Edges[i])).2 → thp h (q0n g g.Edges[i]) ∈ p9 nx g.Edges[i].To.toNat) 0 (fun rec' k hk' a _ hI' hr' => ?_) (fun rec' a hI' => ?_) ⟨nx0, rfl, P, fun v => Nat.le_trans (hb v) (Nat.le_add_right _ _), fun _ _ h => h, by simp⟩ (Nat.zero_le _)
  ·
   obtain ⟨nx, rfl, P', hb', hsub, hc'⟩ := hI'; have hh := List.getElem_mem hk'; obtain ⟨hrh, hln⟩ := R.rp _ _ hh; have hnl := P'.len; unfold q5e; dsimp only; rw [hfc, htc]; refine Ok.bind (qe3 (by omega) ?_); rw [if_pos (by simp; omega), iw hk' (by omega)]; refine Ok.bind (ja0 (by simpa using hk') ?_); rw [List.getElem_map, j20 hG hm]; refine Ok.bind (Ok.some ?_); have hThen : q4k (mkp F (p9 row g.Edges[i].From.toNat)[k]) (mkp (lev g g.Edges[i].From.toNat) (q0n g g.Edges[i])) = some (if Rh F (thp (p9 row g.Edges[i].From.toNat)[k] (q0n g g.Edges[i])).1 (thp (p9 row g.Edges[i].From.toNat)[k] (q0n g g.Edges[i])).2 then (mkp F (thp (p9 row g.Edges[i].From.toNat)[k] (q0n g g.Edges[i])), true) else (none, false)) := j1z hrh hst.1 (by omega); rw [hThen]; refine Ok.bind (Ok.some ?_)
   by_cases hR : Rh F (thp (p9 row g.Edges[i].From.toNat)[k] (q0n g g.Edges[i])).1 (thp (p9 row g.Edges[i].From.toNat)[k] (q0n g g.Edges[i])).2
   ·
    rw [if_pos hR]; dsimp only; rw [if_pos rfl]; refine Ok.bind (qe3 (by omega) ?_); have hbt := hb' g.Edges[i].To.toNat; have hiB : (i + 1) * B ≤ 65 * B := Nat.mul_le_mul_right _ (by omega); rw [zn3] at hiB; have hset : List.map (mkp F) (p9 nx g.Edges[i].To.toNat) ++ [mkp F (thp (p9 row g.Edges[i].From.toNat)[k] (q0n g g.Edges[i]))] = (p9 nx g.Edges[i].To.toNat ++ [thp (p9 row g.Edges[i].From.toNat)[k] (q0n g g.Edges[i])]).map (mkp F) := by simp
    rw [hset, Int.toNat_natCast, z9c]; refine Ok.guard (by rw [List.length_map]; rw [zn3] at hbt; simp only [List.length_cons, List.length_nil]; omega) (hr' _ ⟨_, rfl, P'.add hG R hm hh hR, fun v => ?_, fun v p hp => ?_, fun h hhm hhr => ?_⟩)
    ·
     rw [q9z (by omega)]
     split
     · rename_i hv; subst hv; rw [List.length_append, List.length_singleton]; have := hb' g.Edges[i].To.toNat; omega
     · have := hb' v; omega
    ·
     rw [q9z (by omega)]
     split
     · rename_i hv; subst hv; exact List.mem_append_left _ (hsub _ p hp)
     · exact hsub v p hp
    ·
     rw [q9z (by omega), if_pos rfl]; rw [snoc hk', List.mem_append, List.mem_singleton] at hhm; rcases hhm with hhm | rfl
     · exact List.mem_append_left _ (hc' h hhm hhr)
     · simp
   ·
    rw [if_neg hR]; dsimp only; rw [if_neg (by simp)]; refine hr' _ ⟨nx, rfl, P', fun v => by have := hb' v; omega, hsub, fun h hhm hhr => ?_⟩; rw [snoc hk', List.mem_append, List.mem_singleton] at hhm; rcases hhm with hhm | rfl
    · exact hc' h hhm hhr
    · exact absurd hhr hR
  ·
   obtain ⟨nx, rfl, P', hb', hsub, hc'⟩ := hI'; unfold q5e; dsimp only; rw [hfc]; refine Ok.bind (qe3 (by omega) ?_); rw [if_neg (by simp only [List.length_map, Int.toNat_natCast, decide_eq_true_eq]; omega), iw hi (by omega)]; rw [List.take_length] at hc'; refine hr _ ⟨nx, rfl, P', fun v => ?_, fun e he => ?_⟩
   · have h1 := hb' v; rw [show i + 1 + 1 = (i + 1) + 1 from rfl, Nat.add_mul (i + 1) 1 B, Nat.one_mul]; rw [zn3] at h1 ⊢; omega
   ·
    rw [snoc hi, List.mem_append, List.mem_singleton] at he; rcases he with he | rfl
    · exact fun h hh hr' => hsub _ _ (hc e he h hh hr')
    · exact hc'
 · obtain ⟨nx, rfl, P, hb, hc⟩ := hI; unfold q3p; dsimp only; rw [if_neg (by simp)]; rw [List.take_length] at hc; refine hk nx P (fun v => ?_) hc; have h1 := hb v; have h2 : (g.Edges.length + 1) * B ≤ 100 * B := Nat.mul_le_mul_right _ (by omega); omega
end
end HP
end Go.Proofs.YtlpfoonihpdekaaGreat
