/-
  The law in plain words: what its plain function gives is true. No condition beyond those that each theorem names.
-/
import Derived.Test.YtbcbcdbkdljjlaaWalkFS1
import Derived.Test.YtbcbcdbkdljjlaaP24a
set_option linter.unusedSimpArgs false
set_option linter.unusedVariables false
set_option linter.unusedSectionVars false
namespace Go.Proofs.Ytbcbcdbkdljjlaa
open Go Go.RowKit VA
namespace FU
/-! The graph that is left. -/
def nows : List Bool → Nat → List Int
  | [], _ => []
  | true :: r, k => -1 :: nows r k
  | false :: r, k => (k : Int) :: nows r (k + 1)
def keepN : List GNode → List Bool → List GNode
  | x :: xs, true :: r => keepN xs r
  | x :: xs, false :: r => x :: keepN xs r
  | _, _ => []
def now (gone : List Bool) (i : Int) : Int := (nows gone 0).getD i.toNat 0
def mapE (gone : List Bool) (e : GEdge) : GEdge := ⟨now gone e.From, now gone e.To, e.Port, e.Exchange⟩
def builtG (g : GGraph) (l : List GEdge) (gone : List Bool) : GGraph := ⟨g.Parent, g.Bound, keepN g.Nodes gone, l.map (mapE gone)⟩
def built (g : GGraph) (l : List GEdge) (gone : List Bool) : GFused := ⟨builtG g l gone, nows gone 0⟩
theorem cf_cons (b : Bool) (r : List Bool) : cf (b :: r) = (if b then 0 else 1) + cf r := by cases b <;> simp [cf]; omega
theorem nows_append : ∀ (a b : List Bool) (k : Nat), nows (a ++ b) k = nows a k ++ nows b (k + cf a)
  | [], b, k => by simp [nows, cf]
  | true :: a, b, k => by simp only [List.cons_append, nows, nows_append a b k, cf_cons, if_true]; rw [Nat.zero_add]
  | false :: a, b, k => by
    simp only [List.cons_append, nows, nows_append a b (k + 1), cf_cons, Bool.false_eq_true, if_false]
    rw [show k + 1 + cf a = k + (1 + cf a) by omega]
theorem nows_len : ∀ (a : List Bool) (k : Nat), (nows a k).length = a.length
  | [], _ => rfl
  | true :: a, k => by simp [nows, nows_len a k]
  | false :: a, k => by simp [nows, nows_len a (k + 1)]
theorem keepN_append : ∀ (xs ys : List GNode) (a b : List Bool), xs.length = a.length → keepN (xs ++ ys) (a ++ b) = keepN xs a ++ keepN ys b
  | [], ys, [], b, _ => by simp [keepN]
  | x :: xs, ys, true :: a, b, h => by simp only [List.cons_append, keepN]; exact keepN_append xs ys a b (by simpa using h)
  | x :: xs, ys, false :: a, b, h => by simp only [List.cons_append, keepN]; rw [keepN_append xs ys a b (by simpa using h)]
  | [], _, _ :: _, _, h => by simp at h
  | _ :: _, _, [], _, h => by simp at h
theorem keepN_len : ∀ (xs : List GNode) (a : List Bool), xs.length = a.length → (keepN xs a).length = cf a
  | [], [], _ => rfl
  | x :: xs, true :: a, h => by rw [keepN, cf_cons, keepN_len xs a (by simpa using h)]; simp
  | x :: xs, false :: a, h => by rw [keepN, cf_cons, List.length_cons, keepN_len xs a (by simpa using h)]; simp; omega
  | [], _ :: _, h => by simp at h
  | _ :: _, [], h => by simp at h
theorem take_snoc {α : Type} {l : List α} {i : Nat} (h : i < l.length) : l.take (i + 1) = l.take i ++ [l[i]] := List.take_succ_eq_append_getElem h
theorem set_rep {A : List Int} {n : Nat} {x : Int} (hn : 0 < n) : (A ++ List.replicate n (0 : Int)).set A.length x = A ++ x :: List.replicate (n - 1) 0 := by
  obtain ⟨m, rfl⟩ : ∃ m, n = m + 1 := ⟨n - 1, by omega⟩
  rw [List.set_append_right _ _ (Nat.le_refl _), Nat.sub_self, List.replicate_succ]; rfl
theorem set_mid {A B : List Int} {y x : Int} : (A ++ y :: B).set A.length x = A ++ x :: B := by
  rw [List.set_append_right _ _ (Nat.le_refl _), Nat.sub_self]; rfl
section
variable {g : GGraph} {l : List GEdge} {gone : List Bool} (hN : g.Nodes.length < 1000000) (hl : l.length < 1000000) (hE : InE g l) (hg : gone.length = g.Nodes.length)
include hN hg
theorem now_get {i : Int} (hi : inG g i) {Q : Int → Prop} (h : Q (now gone i)) : Ok (idx (nows gone 0) i) Q := by
  refine Ok.idx' hi.1 (by rw [nows_len, hg]; exact hi.2) fun x hx => ?_
  rw [show x = now gone i from getD_some hx]; exact h
theorem nows_next {i : Nat} (hi : i < gone.length) : nows (gone.take (i + 1)) 0 = nows (gone.take i) 0 ++ [if gone[i] then -1 else (cf (gone.take i) : Int)] := by
  rw [take_snoc hi, nows_append, Nat.zero_add]
  congr 1
  cases gone[i] <;> simp [nows]
theorem keepN_next {i : Nat} (hi : i < g.Nodes.length) : keepN (g.Nodes.take (i + 1)) (gone.take (i + 1)) = keepN (g.Nodes.take i) (gone.take i) ++ if (gone[i]'(by rw [hg]; exact hi)) then [] else [g.Nodes[i]] := by
  rw [take_snoc hi, take_snoc (show i < gone.length by omega), keepN_append _ _ _ _ (by rw [List.length_take, List.length_take, hg])]
  congr 1
  cases gone[i]'(by rw [hg]; exact hi) <;> simp [keepN]
theorem keepN_cf (i : Nat) : (keepN (g.Nodes.take i) (gone.take i)).length = cf (gone.take i) := keepN_len _ _ (by rw [List.length_take, List.length_take, hg])
theorem atB_get {i : Nat} (hi : i < gone.length) : atB gone (i : Int) = gone[i] := by
  unfold atB; rw [Int.toNat_natCast, List.getD_eq_getElem?_getD, List.getElem?_eq_getElem hi]; rfl
include hl hE
theorem built_eq : f_backwashref24_built g (⟨l, gone⟩ : GBackwashref24_state) = some (built g l gone) := by
  unfold f_backwashref24_built
  refine Ok.eq (eachG (l := g.Nodes) (by omega) (fun i (p : List GNode × List Int) => (i, p.1, p.2)) (fun p => p.1) (fun _ _ => rfl) (fun i p => p.1 = keepN (g.Nodes.take i) (gone.take i) ∧ p.2 = nows (gone.take i) 0) (s0 := ([], [])) 0 (fun rec i hi p _ hI hr => ?_) (fun rec p hI => ?_) ⟨by simp [keepN], by simp [nows]⟩ (Nat.zero_le _))
  · obtain ⟨a, b⟩ := p
    obtain ⟨rfl, rfl⟩ := hI
    have hig : i < gone.length := by omega
    have hc := keepN_cf hN hg i
    have hcl : cf (gone.take i) ≤ i := by
      have : cf (gone.take i) ≤ (gone.take i).length := List.length_filter_le _ _
      rw [List.length_take] at this; omega
    unfold f_backwashref24_built_B3
    dsimp only
    rw [if_pos (by simpa using hi)]
    refine Ok.bind (Ok.idxN hig ?_)
    have hnl : (nows (gone.take i) 0).length = i := by rw [nows_len, List.length_take]; omega
    rw [iw hi (by omega)]
    have hn := nows_next hN hg hig
    have hk := keepN_next hN hg hi
    refine Ok.iteB (fun h1 => ?_) (fun h1 => ?_)
    · rw [h1] at hn hk
      refine Ok.guard (by rw [hnl]; simp; omega) ?_
      exact hr (_, _) ⟨by rw [hk]; simp, hn.symm⟩
    · rw [h1] at hn hk
      refine Ok.guard (by rw [hnl]; simp; omega) ?_
      refine Ok.bind (Ok.idxN hi ?_)
      refine Ok.guard (by rw [hc]; simp; omega) ?_
      refine hr (_, _) ⟨by rw [hk]; simp, ?_⟩
      rw [hn, hc]; simp
  · obtain ⟨a, b⟩ := p
    obtain ⟨rfl, rfl⟩ := hI
    unfold f_backwashref24_built_B3
    dsimp only
    rw [if_neg (by simp), List.take_of_length_le (by omega), List.take_of_length_le (by omega)]
    unfold f_backwashref24_built_J1
    refine eachG (l := l) (by omega) (fun i (c : List GEdge) => (i, c)) (fun p => p.1) (fun _ _ => rfl) (fun i c => c = (l.take i).map (mapE gone)) 0 (fun rec' i hi c _ hI hr' => ?_) (fun rec' c hI => ?_) (by simp) (Nat.zero_le _)
    · subst hI
      unfold f_backwashref24_built_B2
      dsimp only
      rw [if_pos (by simpa using hi)]
      refine Ok.bind (Ok.idxN hi ?_)
      have hee := hE _ (List.getElem_mem hi)
      refine Ok.bind (now_get hN hg hee.1 ?_)
      refine Ok.bind (now_get hN hg hee.2 ?_)
      refine Ok.guard (by simp; omega) ?_
      rw [iw hi (by omega)]
      refine hr' _ ?_
      rw [take_snoc hi, List.map_append]; rfl
    · subst hI
      unfold f_backwashref24_built_B2
      dsimp only
      rw [if_neg (by simp), List.take_length]
      exact Ok.some rfl
theorem done_eq {w : GFuse_work} (hp : g.Parent.length < 1000000) (hb : g.Bound.length < 1000000) (hpr : ∀ x ∈ g.Nodes, x.Prog.length < 1000000) (hw : w = ⟨⟨g.Parent, g.Bound, g.Nodes, l⟩, gone⟩) : f_fuse_work_done w = some (built g l gone) := by
  subst hw
  unfold f_fuse_work_done
  have hci : ∀ z : List Int, z.length < 1000000 → f_slices_Clone_int z = some z := fun z hz => by
    unfold f_slices_Clone_int
    refine Ok.eq (Ok.guard (by simp; omega) (Ok.some (by simp)))
  rw [hci _ hp, hci _ hb]
  refine Ok.eq (Ok.bind (Ok.some (Ok.bind (Ok.some (Ok.guard (by dsimp only; omega) ?_)))))
  dsimp only
  refine eachG (l := g.Nodes) (by omega) (fun i (p : List GNode × List Int) => (i, p.1, p.2)) (fun p => p.1) (fun _ _ => rfl) (fun i p => p.1 = keepN (g.Nodes.take i) (gone.take i) ∧ p.2 = nows (gone.take i) 0 ++ List.replicate (g.Nodes.length - i) 0) (s0 := ([], List.replicate g.Nodes.length 0)) 0 (fun rec i hi p _ hI hr => ?_) (fun rec p hI => ?_) ⟨by simp [keepN], by simp [nows]⟩ (Nat.zero_le _)
  · obtain ⟨a, b⟩ := p
    obtain ⟨rfl, rfl⟩ := hI
    have hig : i < gone.length := by omega
    have hc := keepN_cf hN hg i
    have hcl : cf (gone.take i) ≤ i := by
      have : cf (gone.take i) ≤ (gone.take i).length := List.length_filter_le _ _
      rw [List.length_take] at this; omega
    have hnl : (nows (gone.take i) 0).length = i := by rw [nows_len, List.length_take]; omega
    unfold f_fuse_work_done_B3
    dsimp only
    rw [if_pos (by simpa using hi)]
    refine Ok.bind (Ok.idxN hi ?_)
    have hs1 : (nows (gone.take i) 0 ++ List.replicate (g.Nodes.length - i) (0 : Int)).set i (-1) = nows (gone.take i) 0 ++ -1 :: List.replicate (g.Nodes.length - i - 1) 0 := by
      have := set_rep (A := nows (gone.take i) 0) (n := g.Nodes.length - i) (x := -1) (by omega)
      rw [hnl] at this; exact this
    have hs2 : ∀ x : Int, (nows (gone.take i) 0 ++ -1 :: List.replicate (g.Nodes.length - i - 1) (0 : Int)).set i x = nows (gone.take i) 0 ++ x :: List.replicate (g.Nodes.length - i - 1) 0 := fun x => by
      have := set_mid (A := nows (gone.take i) 0) (B := List.replicate (g.Nodes.length - i - 1) (0 : Int)) (y := -1) (x := x)
      rw [hnl] at this; exact this
    refine Ok.bind (Ok.idxN (show i < (nows (gone.take i) 0 ++ List.replicate (g.Nodes.length - i) (0 : Int)).length by rw [List.length_append, hnl, List.length_replicate]; omega) ?_)
    refine Ok.bind (Ok.idxN hig ?_)
    rw [iw hi (by omega), Int.toNat_natCast, hs1]
    have hn := nows_next hN hg hig
    have hk := keepN_next hN hg hi
    refine Ok.iteB (fun h1 => ?_) (fun h1 => ?_)
    · rw [Bool.not_eq_true'] at h1
      rw [h1] at hn hk
      refine Ok.bind (Ok.idxN (show i < (nows (gone.take i) 0 ++ -1 :: List.replicate (g.Nodes.length - i - 1) (0 : Int)).length by simp [hnl]) ?_)
      have hpl := hpr _ (List.getElem_mem hi)
      have hcl' : f_slices_Clone_Ins g.Nodes[i].Prog = some g.Nodes[i].Prog := by
        unfold f_slices_Clone_Ins
        exact Ok.eq (Ok.guard (by simp; omega) (Ok.some (by simp)))
      rw [hcl']
      refine Ok.bind (Ok.some ?_)
      refine Ok.guard (by rw [hc]; simp; omega) ?_
      rw [hs2]
      refine hr (_, _) ⟨by rw [hk]; simp, ?_⟩
      dsimp only
      rw [hn, hc, show g.Nodes.length - (i + 1) = g.Nodes.length - i - 1 by omega]; simp
    · rw [Bool.not_eq_false'] at h1
      rw [h1] at hn hk
      refine hr (_, _) ⟨by rw [hk]; simp, ?_⟩
      dsimp only
      rw [hn, show g.Nodes.length - (i + 1) = g.Nodes.length - i - 1 by omega]; simp
  · obtain ⟨a, b⟩ := p
    obtain ⟨rfl, rfl⟩ := hI
    unfold f_fuse_work_done_B3
    dsimp only
    rw [if_neg (by simp), List.take_of_length_le (by omega), List.take_of_length_le (by omega), Nat.sub_self, List.replicate_zero, List.append_nil]
    unfold f_fuse_work_done_J1
    refine eachG (l := l) (by omega) (fun i (c : List GEdge) => (i, c)) (fun p => p.1) (fun _ _ => rfl) (fun i c => c = (l.take i).map (mapE gone)) 0 (fun rec' i hi c _ hI hr' => ?_) (fun rec' c hI => ?_) (by simp) (Nat.zero_le _)
    · subst hI
      unfold f_fuse_work_done_B2
      dsimp only
      rw [if_pos (by simpa using hi)]
      refine Ok.bind (Ok.idxN hi ?_)
      have hee := hE _ (List.getElem_mem hi)
      refine Ok.bind (now_get hN hg hee.1 ?_)
      refine Ok.bind (now_get hN hg hee.2 ?_)
      refine Ok.guard (by simp; omega) ?_
      rw [iw hi (by omega)]
      refine hr' _ ?_
      rw [take_snoc hi, List.map_append]; rfl
    · subst hI
      unfold f_fuse_work_done_B2
      dsimp only
      rw [if_neg (by simp), List.take_length]
      exact Ok.some rfl
end
end FU
end Go.Proofs.Ytbcbcdbkdljjlaa
