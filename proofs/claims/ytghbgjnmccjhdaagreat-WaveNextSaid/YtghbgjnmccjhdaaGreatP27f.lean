/-
  The law in plain words: what its plain function gives is true. No condition beyond those that each theorem names.
-/
import Derived.Test.YtghbgjnmccjhdaaGreatWalkWN2
import Derived.Test.YtghbgjnmccjhdaaGreatWalkWN0
import Derived.Test.YtghbgjnmccjhdaaGreatP27e
set_option linter.unusedSimpArgs false
set_option linter.unusedVariables false
set_option linter.unusedSectionVars false
namespace Go.Proofs.YtghbgjnmccjhdaaGreat
open Go Go.RowKit TS VA BG
namespace WV
open Classical
theorem zx8 : q6l = some true := by kernel_rfl
theorem zt4 (g : GGraph) (feeds : List GFeed) : Ok (q5a g feeds) fun r => r = true → feeds.length ≤ 40 ∧ ∀ x ∈ g.Nodes, x.Prog.length ≤ 100 := by
 unfold q5a; refine j6j (UN.gShort_ok g) fun b hb => Ok.some fun h => ?_; simp only [Bool.and_eq_true, decide_eq_true_eq] at h; exact ⟨by omega, (hb h.1).2⟩
theorem WaveNext_holds (g : GGraph) (feeds : List GFeed) (_ : Dat.ok g) (_ : Dat.ok feeds) : q4d g feeds = some true := by
 unfold q4d; rw [zx8]; refine j6n (Ok.bind (Ok.some ?_)); rw [if_neg (by simp)]; refine j6j (zt4 g feeds) fun b hb => j6k (fun _ => Ok.some rfl) (fun hs => ?_); obtain ⟨hfl, _⟩ := hb (by simpa using hs); refine j6j (za4 g feeds (by omega) (by omega)) fun v hv => j6k (fun _ => Ok.some rfl) (fun hx => ?_); obtain ⟨hG, tb, htb, hT, hR⟩ := hv (by simpa using hx); obtain ⟨hl, hp, hc⟩ := hR (by simpa using hx); refine j6m (fun s : Int => ∃ i : Nat, s = (i : Int) ∧ 1 ≤ i) (fun s => v.1.length - s.toNat) ?_ ⟨1, rfl, Nat.le_refl _⟩ (by simp only [rounds]; omega); rintro rec _ ⟨i, rfl, hi1⟩ hrec; unfold q6h; refine j6k (fun h => ?_) (fun _ => Ok.some rfl); have hi : i < v.1.length := by simpa using h
 obtain ⟨k, rfl⟩ : ∃ k, i = k + 1 := ⟨i - 1, by omega⟩; rw [show IntKind.i64.wrap (((k + 1 : Nat) : Int) - 1) = (k : Int) by rw [wrap_i64 _ (by omega)]; omega, iw hi (by omega)]; have hgo := hrec ((k + 1 + 1 : Nat) : Int) ⟨k + 1 + 1, rfl, by omega⟩ (by simp only [Int.toNat_natCast]; omega); refine Ok.bind (j6l (show k < v.1.length by omega) (Ok.bind (j6l hi ?_))); have hpk := hp _ (List.getElem_mem (show k < v.1.length by omega)); have hpq := hp _ (List.getElem_mem hi); have hck := hc k hi; rw [htb, zt9]; have hre : lt v.1[k + 1].Point v.1[k].Point → Ok (q9 (some tb) (fun v_16 => q9 (q1q v_16 v.1[k].Point.Node v.1[k].Point.Time v.1[k + 1].Point.Node v.1[k + 1].Point.Time) (fun (v_17 : Bool) => (if (!v_17) = true then some false else rec ((k + 1 + 1 : Nat) : Int))))) (fun r => r = true) := fun hlt => by
  refine Ok.bind (Ok.some ?_); rw [z3m hG hT hpk hpq, hck hlt]; refine Ok.bind (Ok.some ?_); rw [if_neg (by simp)]; exact hgo
 refine j6k (fun h1 => ?_) (fun h1 => j6k (fun h2 => Ok.bind (Ok.some (j6k (fun h3 => ?_) (fun _ => hgo)))) (fun _ => hgo))
 · exact hre (.inl (by simpa using h1))
 · simp only [decide_eq_true_eq, beq_iff_eq] at h2 h3; exact hre (.inr ⟨h2, h3.2.2⟩)
end WV
end Go.Proofs.YtghbgjnmccjhdaaGreat
