/-
  The law in plain words: what its plain function gives is true. No condition beyond those that each theorem names.
-/
import Derived.Test.YtgegekpefakacaaGreatWalkUS2
import Derived.Test.YtgegekpefakacaaGreatP16x
namespace Go.Proofs.YtgegekpefakacaaGreat
open Go Go.RowKit TS VA
namespace UN
open CE (Cl Sz lens q5c z3l)
open Classical
theorem wmod (n : Int) : (IntKind.i64.wrap n - n) % 18446744073709551616 = 0 := by
 rw [z2x]; split <;> omega
theorem j85 {w x0 x1 a b n : Int} (h : (x0 + x1 - a - b - n) % 18446744073709551616 = 0) (hw : (w - (x0 + 1)) % 18446744073709551616 = 0) : (w + x1 - a - b - (n + 1)) % 18446744073709551616 = 0 := by omega
theorem j84 {w x0 x1 a b n : Int} (h : (x0 + x1 - a - b - n) % 18446744073709551616 = 0) (hw : (w - (x1 + 1)) % 18446744073709551616 = 0) : (x0 + w - a - b - (n + 1)) % 18446744073709551616 = 0 := by omega
theorem j1i {k w : Int} (h : 1 ≤ w ∧ w ≤ 64) : Ok (qd7 k w) fun r => 0 ≤ r ∧ r < w := by
 unfold qd7 qx0; refine Ok.bind (Ok.some ?_); rw [if_neg (by simp; omega)]; have h1 := Int.tmod_lt_of_pos k (show (0 : Int) < w by omega); have h2 := Int.lt_tmod_of_pos k (show (0 : Int) < w by omega); refine Ok.guard (by omega) (Ok.guard (by omega) (Ok.some ?_)); rw [wrap_i64 _ (by omega)]; exact ⟨Int.tmod_nonneg _ (by omega), Int.tmod_lt_of_pos _ (by omega)⟩
def Let (u : GUnit) (w : Int) (edge : Int) (t : GTime) (x : GLetter) : Prop := x.Msg.Edge = edge ∧ x.Msg.Time = t ∧ x.Msg.N ≠ 0 ∧ x.Msg.Colour = u.Colour ∧ (0 ≤ x.To ∧ x.To < w ∨ x.To = u.ID)
structure Stays (s r : GUnit_sender) : Prop where
 id : r.Unit.ID = s.Unit.ID
 cells : r.Unit.Cells = s.Unit.Cells
 colour : r.Unit.Colour = s.Unit.Colour
 got : r.Unit.Got = s.Unit.Got
 red : r.Unit.Red = s.Unit.Red
 late : r.Unit.Late = s.Unit.Late
 workers : r.workers = s.workers
theorem zt0 {s : GUnit_sender} {edge : Int} {e : GEdge} {t : GTime} {l : List GItem} {k : Int} (hc : s.Unit.Colour = 0 ∨ s.Unit.Colour = 1) (hw : 1 ≤ s.workers ∧ s.workers ≤ 64) (hl : z3l l) (ho : s.out.length ≤ 100000000) (hk : k = 1 ∨ k = -1) :
  Ok (q0w s edge e t l k) fun r => Stays s r ∧ ∃ L, r.out = s.out ++ L ∧ L.length = l.length ∧ (∀ x ∈ L, Let s.Unit s.workers edge t x) ∧ (r.Unit.Sent.a0 + r.Unit.Sent.a1 - s.Unit.Sent.a0 - s.Unit.Sent.a1 - (L.length : Int)) % 18446744073709551616 = 0 := by
 have hll := hl.2; unfold q0w; refine eachG (l := l) (by omega) (fun i (p : Int × Int × Int × List GLetter) => (i, p.1, p.2.1, p.2.2.1, p.2.2.2)) (fun p => p.1) (fun _ _ => rfl)
  (fun i p => ∃ L, p.2.2.2 = s.out ++ L ∧ L.length = i ∧ (∀ x ∈ L, Let s.Unit s.workers edge t x) ∧ (p.1 + p.2.1 - s.Unit.Sent.a0 - s.Unit.Sent.a1 - (L.length : Int)) % 18446744073709551616 = 0) (s0 := (s.Unit.Sent.a0, s.Unit.Sent.a1, s.Unit.Backs, s.out)) 0 (fun rec i hi p _ hI hr => ?_) (fun rec p hI => ?_) ⟨[], by simp, rfl, by simp, by simp; omega⟩ (Nat.zero_le _)
 ·
  obtain ⟨x0, x1, bk, out⟩ := p; obtain ⟨L, rfl, hL, hLt, hmod⟩ := hI; dsimp only at hmod; have hy := hl.1 _ (List.getElem_mem hi); unfold q13; dsimp only; rw [if_pos (by simpa using hi)]; refine Ok.bind (jf6 hi ?_); have hkn : IntKind.i64.wrap (k * l[i].N) ≠ 0 := by
   rcases hk with rfl | rfl
   · rw [show (1 : Int) * l[i].N = l[i].N by omega, wrap_i64 _ (by omega)]; omega
   · rw [show (-1 : Int) * l[i].N = -l[i].N by omega, wrap_i64 _ (by omega)]; omega
  have hj : ∀ to : Int, (0 ≤ to ∧ to < s.workers ∨ to = s.Unit.ID) → Ok (q0n s edge t k (i : Int) x0 x1 bk (s.out ++ L) rec l[i] to) fun r => Stays s r ∧ ∃ L, r.out = s.out ++ L ∧ L.length = l.length ∧ (∀ x ∈ L, Let s.Unit s.workers edge t x) ∧ (r.Unit.Sent.a0 + r.Unit.Sent.a1 - s.Unit.Sent.a0 - s.Unit.Sent.a1 - (L.length : Int)) % 18446744073709551616 = 0 := fun to hto => by
   have hnew : ∀ x ∈ L ++ [(⟨to, ⟨edge, t, l[i].Rec, IntKind.i64.wrap (k * l[i].N), s.Unit.Colour⟩⟩ : GLetter)], Let s.Unit s.workers edge t x := fun x hx => by
    rcases List.mem_append.1 hx with hx | hx
    · exact hLt x hx
    · rw [List.mem_singleton] at hx; subst hx; exact ⟨rfl, rfl, hkn, rfl, hto⟩
   unfold q0n; rw [iw hi (by omega)]; refine Ok.guard (by simp; omega) ?_; rcases hc with hc | hc
   ·
    rw [hc] at hnew ⊢; have hwm := wmod (x0 + 1); refine Ok.guard (by decide) (Ok.bind (jf9 (a := x0) rfl (Ok.guard (by decide) (Ok.bind (jf9 (a := IntKind.i64.wrap (x0 + 1)) rfl (Ok.bind (jf9 (a := x1) rfl ?_))))))); refine jf5 (fun _ => ?_) (fun _ => ?_)
    · exact hr (_, _, _, _) ⟨_, List.append_assoc _ _ _, by simp [hL], hnew, by dsimp only; rw [List.length_append, List.length_singleton, Int.natCast_add]; exact j85 hmod hwm⟩
    · exact hr (_, _, _, _) ⟨_, List.append_assoc _ _ _, by simp [hL], hnew, by dsimp only; rw [List.length_append, List.length_singleton, Int.natCast_add]; exact j85 hmod hwm⟩
   ·
    rw [hc] at hnew ⊢; have hwm := wmod (x1 + 1); refine Ok.guard (by decide) (Ok.bind (jf9 (a := x1) rfl (Ok.guard (by decide) (Ok.bind (jf9 (a := x0) rfl (Ok.bind (jf9 (a := IntKind.i64.wrap (x1 + 1)) rfl ?_))))))); refine jf5 (fun _ => ?_) (fun _ => ?_)
    · exact hr (_, _, _, _) ⟨_, List.append_assoc _ _ _, by simp [hL], hnew, by dsimp only; rw [List.length_append, List.length_singleton, Int.natCast_add]; exact j84 hmod hwm⟩
    · exact hr (_, _, _, _) ⟨_, List.append_assoc _ _ _, by simp [hL], hnew, by dsimp only; rw [List.length_append, List.length_singleton, Int.natCast_add]; exact j84 hmod hwm⟩
  refine jf5 (fun _ => ?_) (fun _ => hj _ (.inr rfl)); exact jf4 (j1i hw) fun to hto => hj to (.inl hto)
 · obtain ⟨x0, x1, bk, out⟩ := p; obtain ⟨L, rfl, hL, hLt, hmod⟩ := hI; unfold q13; dsimp only; rw [if_neg (by simp)]; exact Ok.some ⟨⟨rfl, rfl, rfl, rfl, rfl, rfl, rfl⟩, L, rfl, hL, hLt, hmod⟩
end UN
end Go.Proofs.YtgegekpefakacaaGreat
