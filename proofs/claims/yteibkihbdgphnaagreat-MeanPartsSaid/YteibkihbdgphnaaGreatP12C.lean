/-
  The law in plain words: what its plain function gives is true. No condition beyond those that each theorem names.
-/
import Derived.Test.YteibkihbdgphnaaGreatWalkMP0
import Derived.Test.YteibkihbdgphnaaGreatP12B
set_option linter.unusedSimpArgs false
set_option linter.unusedVariables false
set_option linter.unusedSectionVars false
open List renaming length_cons -> Xa, foldl_cons -> Xb, length_append -> Xc
namespace Go.Proofs.YteibkihbdgphnaaGreat
open Go Go.RowKit TS VA BG
namespace MN
open Classical
theorem zo3 (s : MS) (q : GMean_point) (port : Int) : q4h s q port [] = s := by unfold q4h; rw [if_pos rfl]
theorem ze1 : ∀ (l : List GFeed) (K : Int) (s s1 s2 : MS), L3 K s s1 s2 -> 0 <= K -> K + l.length <= 40000000 -> L3 (K + l.length) (l.foldl q67 s) (l.foldl q67 s1) s2
 | [], K, _, _, _, h, _, _ => h.mono (by simp)
 | f :: l, K, s, s1, s2, h, h0, hK => by
  obtain ⟨o1, o2⟩ := z8u f.Rec; have hz : tot ([] : List GItem) = 0 := by simp [tot]
  simp only [Xa] at hK; have := j0g h o1 Fn.nil (by omega) ⟨f.Node, ep f.Epoch⟩ 0; rw [z0f o1 (by omega), zo3, o2, hz] at this; rw [Xb, Xb]; exact (ze1 l (K + 1) _ _ _ (this.mono (by omega)) (by omega) (by push_cast at hK; omega)).mono (by simp only [Xa]; push_cast; omega)
theorem z8p : ∀ (l : List GFeed) (K : Int) (s s1 s2 : MS), L3 K s s1 s2 -> 0 <= K -> K + l.length <= 40000000 -> L3 (K + l.length) (l.foldl q67 s) s1 (l.foldl q67 s2)
 | [], K, _, _, _, h, _, _ => h.mono (by simp)
 | f :: l, K, s, s1, s2, h, h0, hK => by
  obtain ⟨o1, o2⟩ := z8u f.Rec; have hz : tot ([] : List GItem) = 0 := by simp [tot]
  simp only [Xa] at hK; have := j0g h Fn.nil o1 (by omega) ⟨f.Node, ep f.Epoch⟩ 0; rw [j49 o1 (by omega), zo3, o2, hz] at this; rw [Xb, Xb]; exact (z8p l (K + 1) _ _ _ (this.mono (by omega)) (by omega) (by push_cast at hK; omega)).mono (by simp only [Xa]; push_cast; omega)
theorem ja3 (A B : List GFeed) (h : A.length + B.length <= 1000) : L3 ((A ++ B).length : Int) (q5n (A ++ B)) (q5n A) (q5n B) := by
 have hz : tot ([] : List GItem) = 0 := by simp [tot]
 have h0 : L3 0 s0 s0 s0 := ⟨fun p => ⟨⟨Fn.nil, Fn.nil⟩, ⟨Fn.nil, Fn.nil⟩⟩, fun p => by
  show no2 = ⟨q08 [] [], q08 [] []⟩
  rw [z0f Fn.nil (by omega)]; rfl, fun p => ⟨by show tot [] + tot [] <= 0; omega, by show tot [] + tot [] <= 0; omega⟩, ⟨rfl, by decide, by decide⟩, List.Perm.refl _, ⟨rfl, rfl, rfl⟩⟩
 have h1 := ze1 A 0 _ _ _ h0 (by omega) (by omega); have h2 := z8p B _ _ _ _ h1 (by omega) (by omega); unfold q5n; rw [List.foldl_append]; exact h2.mono (by rw [Xc]; push_cast; omega)
theorem j6u {g : GGraph} {A B : List GFeed} {most : Int} (ha : Ask g (A ++ B) most) (hl : A.length + B.length <= 1000) (hm : most <= 5000) (hlin : ∀ n, n < g.Nodes.length -> OP.linS (nd g n).Kind = true /\ (nd g n).Kind ≠ 14) (he : (q4i g most (A ++ B)).e = 0) :
  (q4i g most A).e = 0 /\ (q4i g most B).e = 0 /\ (q4i g most (A ++ B)).outs.Perm ((q4i g most A).outs ++ (q4i g most B).outs) /\ (q4i g most (A ++ B)).work = (q4i g most A).work + (q4i g most B).work := by
 obtain ⟨hG, hm0, hm1, hF⟩ := ha; have hAB : (A ++ B).length <= 1000 := by rw [Xc]; exact hl
 rw [z6r hG hF hAB fun f hf => hf] at he ⊢; rw [z6r hG hF (X := A) (by omega) fun f hf => List.mem_append_left _ hf, z6r hG hF (X := B) (by omega) fun f hf => List.mem_append_right _ hf]; have h3 := ja3 A B hl; have hw0 := (z5o (A ++ B) hAB).2.2.2.1; unfold qz3 at he ⊢; have hC : ((A ++ B).length : Int) <= 1000 := by omega
 obtain ⟨h4, _⟩ := j5o hG (most := most) (C := ((A ++ B).length : Int)) (by omega) (by omega) hlin _ (q5n (A ++ B)) (q5n A) (q5n B) (fun p hp => by
  obtain ⟨e, _, hx⟩ := List.mem_flatMap.1 hp; exact zc2 p hx) (h3.mono (by omega)) (by omega) he
 exact ⟨h4.e.2.1, h4.e.2.2, h4.ou, h4.wk.1⟩
end MN
end Go.Proofs.YteibkihbdgphnaaGreat
