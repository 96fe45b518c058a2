/-
  The law in plain words: what its plain function gives is true. No condition beyond those that each theorem names.
-/
import Derived.Test.YteibkihbdgphnaaGreatWalkMP1
import Derived.Test.YteibkihbdgphnaaGreatP11e
set_option linter.unusedSimpArgs false
set_option linter.unusedVariables false
set_option linter.unusedSectionVars false
namespace Go.Proofs.YteibkihbdgphnaaGreat
open Go Go.RowKit BG
namespace BG
def neg (l : List GItem) : List GItem := l.map fun y => ⟨y.Rec, -y.N⟩
theorem z5t : ∀ (l : List GItem) (z : GRec), cnt (neg l) z = - cnt l z
 | [], _ => rfl
 | x :: l, z => by
  have := z5t l z; simp only [neg] at this; simp only [neg, List.map_cons, cnt, this]
  split <;> omega
theorem zb0 {l : List GItem} (h : OP.Pos l) (z : GRec) : 0 <= cnt l z := by
 induction l with
 | nil => simp [cnt]
 | cons x l ih =>
  have h1 := h x (by simp); have h2 := ih fun y hy => h y (by simp [hy]); simp only [cnt]
  split <;> omega
end BG
namespace CE
structure Fine (l : List GItem) : Prop where
 rt : Rt l
 pos : OP.Pos l
 big : BG.big l <= 65536
 len : l.length <= 65536
theorem Fine.nil : Fine [] := ⟨Rt.nil, by simp [OP.Pos], by simp [BG.big], by simp⟩
theorem there_good (a : List GItem) (h : a.length <= 60000) : OP.Good (there a) := ⟨(z6p a).1, (z6p a).2, by have := zb7 a; omega⟩
theorem ports {a b : List GItem} (la : a.length <= 60000) (lb : b.length <= 60000) : q53 0 [a, b] = some (there a) /\ q53 1 [a, b] = some (there b) := by
 have h : ∀ l ∈ [a, b], l.length < 1000000 := fun l hl => by
  rcases List.mem_cons.1 hl with rfl | hl
  . omega
  . rw [List.mem_singleton] at hl; rw [hl]; omega
 exact ⟨OP.port_ok (ports := [a, b]) 0 h, OP.port_ok (ports := [a, b]) 1 h⟩
theorem Apply_fact {x : GNode} {a b : List GItem} (la : a.length <= 60000) (lb : b.length <= 60000) : Ok (q7z x [a, b]) (fun v => Fine v.1) := by
 obtain ⟨h1, h2⟩ := ports la lb; refine (OP.Apply_ok h1 h2 (there_good a la) (there_good b lb)).mono fun v ⟨O, _, hO, hF⟩ => ?_; rcases hF with ⟨_, hp, ht⟩ | ⟨_, hv, _⟩
 .
  have hpos : OP.Pos v.1 := fun y hy => by
   have h3 := hp.cnt y.Rec; rw [z0t hp.rt.inc hy] at h3; have h4 := zb0 hO y.Rec; have h5 := (hp.rt.num y hy).1; simp only [BG.cnt] at h3; omega
  have htot : tot v.1 <= 65536 := by rw [hp.tot]; simp [BG.tot] at *; omega
  refine ⟨hp.rt, hpos, by rw [hpos.big]; exact htot, ?_⟩; have := hpos.tot_nonneg; omega
 . rw [hv]; exact Fine.nil
end CE
end Go.Proofs.YteibkihbdgphnaaGreat
