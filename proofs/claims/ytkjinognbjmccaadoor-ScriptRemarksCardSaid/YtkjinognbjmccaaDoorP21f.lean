/-
  The law in plain words: what its plain function gives is true. No condition beyond those that each theorem names.
-/
import Derived.Test.YtkjinognbjmccaaDoorWalkSR0
import Derived.Test.YtkjinognbjmccaaDoorP21e
set_option linter.unusedSimpArgs false
set_option linter.unusedVariables false
set_option linter.unusedSectionVars false
namespace Go.Proofs.YtkjinognbjmccaaDoor
open Go Go.RowKit Go.Lib
set_option maxRecDepth 100000
/-! A line's words read as an act. -/
theorem numbers_ok {ws : List GStr} (hl : ws.length ≤ 1000) (hs : ∀ w ∈ ws, w.s.length ≤ 1000) :
  Ok (f_script_numbers ws) fun p => (p.2 = true → (∀ n ∈ p.1, In n) ∧ ws = p.1.map fun n => ⟨itoa n⟩) ∧ ∀ ns : List Int, (∀ n ∈ ns, In n) → ws = ns.map (fun n => ⟨itoa n⟩) → p = (ns, true) := by
 unfold f_script_numbers
 refine Ok.each (l := ws) (by omega) (fun i s => (∀ n ∈ s, In n) ∧ ws.take i = s.map fun n => ⟨itoa n⟩) 0 ?_ ?_ ⟨by simp, by simp⟩ (Nat.zero_le _)
 ·
  rintro rec i hi s _ ⟨h1, h2⟩ hr
  unfold f_script_numbers_B1
  simp only
  refine Ok.iteB (fun _ => Ok.bind (Ok.idxN hi ?_)) (fun hc => absurd hc (by simp; omega))
  obtain ⟨n, b, he, hb1, hb2⟩ := number_eq (s := ws[i].s) (Nat.le_trans (hs _ (List.getElem_mem hi)) (by decide))
  refine Ok.bind (Ok.of_eq he ?_)
  refine Ok.iteB (fun hc => Ok.some ⟨fun h => (by cases h), fun ns hn hw => ?_⟩) (fun hc => ?_)
  ·
   have hb : b = false := by simpa using hc
   have hi2 : i < ns.length := by rw [hw, List.length_map] at hi; exact hi
   have hwi : ws[i] = ⟨itoa ns[i]⟩ := by simp only [hw, List.getElem_map]
   have := (hb2 ns[i] (hn _ (List.getElem_mem hi2)) (by rw [hwi])).1
   rw [hb] at this; cases this
  ·
   have hb : b = true := by simpa using hc
   obtain ⟨g1, g2⟩ := hb1 hb
   have hsl : s.length = i := by
    have := congrArg List.length h2
    rw [List.length_take, List.length_map] at this; omega
   refine Ok.guard (by simp only [List.length_cons, List.length_nil]; omega) ?_
   rw [wrapS (by omega)]
   refine hr _ ⟨fun m hm => ?_, ?_⟩
   ·
    rcases List.mem_append.1 hm with hm | hm
    · exact h1 m hm
    · rw [List.mem_singleton.1 hm]; exact g1
   ·
    rw [List.take_succ_eq_append_getElem hi, h2, List.map_append]
    congr 1
    rw [List.map_cons, List.map_nil, ← g2]
 ·
  rintro rec s ⟨h1, h2⟩
  unfold f_script_numbers_B1
  simp only
  rw [List.take_length] at h2
  refine Ok.iteB (fun hc => absurd hc (by simp)) (fun _ => Ok.some ⟨fun _ => ⟨h1, h2⟩, fun ns hn hw => ?_⟩)
  congr 1
  rw [hw] at h2
  have : ∀ (a b : List Int), (∀ n ∈ a, In n) → (∀ n ∈ b, In n) → a.map (fun n => (⟨itoa n⟩ : GStr)) = b.map (fun n => ⟨itoa n⟩) → b = a := by
   intro a
   induction a with
   | nil => intro b _ _ hm; cases b with
    | nil => rfl
    | cons y b => simp at hm
   | cons x a ih => intro b ha hb hm; cases b with
    | nil => simp at hm
    | cons y b =>
     simp only [List.map_cons, List.cons.injEq, GStr.mk.injEq] at hm
     have e : x = y := by
      have h1 := parse_itoa (ha x (by simp))
      rw [hm.1, parse_itoa (hb y (by simp))] at h1
      injection h1 with h1; exact h1.symm
     rw [e, ih b (fun n hn => ha n (by simp [hn])) (fun n hn => hb n (by simp [hn])) hm.2]
  exact this ns s hn h1 h2
theorem loop7 {σ R : Type} (body : (σ → Option R) → σ → Option R) (n : Nat) (s : σ) : loopK body (n + 7) s = body (body (body (body (body (body (body (loopK body n))))))) s := rfl
theorem rounds7 : ∃ n, rounds = n + 7 := ⟨18446744073709551609, rfl⟩
theorem mx0 : max (0 : Int) 0 = 0 := rfl
theorem mx1 : max (1 : Int) 0 = 1 := rfl
theorem mx2 : max (2 : Int) 0 = 2 := rfl
theorem mx4 : max (4 : Int) 0 = 4 := rfl
theorem len1 {L : List Int} (h : (L.length : Int) = 1) : ∃ a, L = [a] := by
 match L, h with
 | [a], _ => exact ⟨a, rfl⟩
 | [], h => simp at h
 | _ :: _ :: _, h => simp only [List.length_cons] at h; omega
theorem len4 {L : List Int} (h : (L.length : Int) = 4) : ∃ a b c d, L = [a, b, c, d] := by
 match L, h with
 | [a, b, c, d], _ => exact ⟨a, b, c, d, rfl⟩
 | [], h => simp at h
 | [_], h => simp at h
 | [_, _], h => simp at h
 | [_, _, _], h => simp at h
 | _ :: _ :: _ :: _ :: _ :: _, h => simp only [List.length_cons] at h; omega
theorem In0 : In 0 := ⟨by omega, by omega⟩
set_option maxHeartbeats 8000000 in
theorem act_ok {w : GStr} {ws : List GStr} (hl : ws.length ≤ 999) (hs : ∀ x ∈ w :: ws, x.s.length ≤ 1000) : Ok (f_script_act (w :: ws)) fun r => r.2 = 0 → AOK r.1 ∧ AIn r.1 := by
 unfold f_script_act f_script_shapes
 refine Ok.guard (by simp only [List.length_cons]; omega) ?_
 have hd : (List.drop (Int.toNat 1) (List.take (List.length (w :: ws)) (w :: ws))) = ws := by rw [List.take_length]; rfl
 rw [hd]
 refine Ok.bind2 (numbers_ok (ws := ws) (by omega) fun x hx => hs x (by simp [hx])) ?_
 rintro ⟨L, b⟩ ⟨hb, _⟩
 refine Ok.bind (Ok.some ?_)
 obtain ⟨n, hn⟩ := rounds7
 rw [hn]
 simp only [loop7]
 obtain ⟨w⟩ := w
 clear hd hs hl hn
 have hL : b = true → ∀ x ∈ L, In x := fun h => (hb h).1
 clear hb
 by_cases w1 : w = [102, 101, 101, 100]
 ·
  subst w1
  simp [f_script_act_B1, f_script_act_J2, f_script_act_J3, f_script_places_p0, bindO, idx, guardO, IntKind.wrap, IntKind.signed, IntKind.bits, mx2]
  refine Ok.ite (fun _ => Ok.some (fun h => absurd h (by decide))) (fun hc => ?_)
  obtain ⟨c1, c2⟩ := not_or.1 hc
  obtain ⟨x0, x1, x2, x3, rfl⟩ := len4 (Decidable.not_not.1 c2)
  have hi := hL (by simpa using c1)
  simp only [List.mem_cons, List.not_mem_nil, or_false, forall_eq_or_imp, forall_eq] at hi
  simp
  repeat' (refine Ok.ite (fun _ => ?_) (fun _ => ?_))
  all_goals first
   | (refine Ok.some ?_; intro h; simp at h; done)
   | (refine Ok.some fun _ => ⟨.inl ⟨rfl, ⟨?_, ?_⟩, ⟨?_, ?_⟩, rfl, rfl⟩, hi.1, hi.2.1, In0, In0, hi.2.2.1, hi.2.2.2⟩ <;> dsimp only <;> omega)
 by_cases w2 : w = [99, 108, 111, 115, 101]
 ·
  subst w2
  simp [f_script_act_B1, f_script_act_J2, f_script_act_J3, f_script_places_p0, bindO, idx, guardO, IntKind.wrap, IntKind.signed, IntKind.bits, mx1]
  refine Ok.ite (fun _ => Ok.some (fun h => absurd h (by decide))) (fun hc => ?_)
  obtain ⟨c1, c2⟩ := not_or.1 hc
  obtain ⟨x0, rfl⟩ := len1 (Decidable.not_not.1 c2)
  have hi := hL (by simpa using c1)
  simp only [List.mem_cons, List.not_mem_nil, or_false, forall_eq] at hi
  simp
  repeat' (refine Ok.ite (fun _ => ?_) (fun _ => ?_))
  all_goals first
   | (refine Ok.some ?_; intro h; simp at h; done)
   | (refine Ok.some fun _ => ⟨.inr ⟨⟨rfl, rfl⟩, .inl ⟨rfl, ⟨?_, ?_⟩, rfl, rfl, rfl⟩⟩, hi, In0, In0, In0, In0, In0⟩ <;> dsimp only <;> omega)
 by_cases w3 : w = [102, 105, 110, 105, 115, 104]
 ·
  subst w3
  simp [f_script_act_B1, f_script_act_J2, f_script_act_J3, f_script_places_p0, bindO, idx, guardO, IntKind.wrap, IntKind.signed, IntKind.bits, mx0]
  repeat' (refine Ok.ite (fun _ => ?_) (fun _ => ?_))
  all_goals first
   | (refine Ok.some ?_; intro h; simp at h; done)
   | (refine Ok.some fun _ => ⟨.inr ⟨⟨rfl, rfl⟩, .inr (.inl ⟨rfl, rfl, rfl, rfl, rfl⟩)⟩, In0, In0, In0, In0, In0, In0⟩)
 by_cases w4 : w = [109, 97, 107, 101]
 ·
  subst w4
  simp [f_script_act_B1, f_script_act_J2, f_script_act_J3, f_script_places_p0, bindO, idx, guardO, IntKind.wrap, IntKind.signed, IntKind.bits, mx1]
  refine Ok.ite (fun _ => Ok.some (fun h => absurd h (by decide))) (fun hc => ?_)
  obtain ⟨c1, c2⟩ := not_or.1 hc
  obtain ⟨x0, rfl⟩ := len1 (Decidable.not_not.1 c2)
  have hi := hL (by simpa using c1)
  simp only [List.mem_cons, List.not_mem_nil, or_false, forall_eq] at hi
  simp
  repeat' (refine Ok.ite (fun _ => ?_) (fun _ => ?_))
  all_goals first
   | (refine Ok.some ?_; intro h; simp at h; done)
   | (refine Ok.some fun _ => ⟨.inr ⟨⟨rfl, rfl⟩, .inr (.inr (.inl ⟨rfl, ⟨?_, ?_⟩, rfl, rfl, rfl⟩))⟩, hi, In0, In0, In0, In0, In0⟩ <;> dsimp only <;> omega)
 by_cases w5 : w = [109, 111, 118, 101]
 ·
  subst w5
  simp [f_script_act_B1, f_script_act_J2, f_script_act_J3, f_script_places_p0, bindO, idx, guardO, IntKind.wrap, IntKind.signed, IntKind.bits, mx4]
  refine Ok.ite (fun _ => Ok.some (fun h => absurd h (by decide))) (fun hc => ?_)
  obtain ⟨c1, c2⟩ := not_or.1 hc
  obtain ⟨x0, x1, x2, x3, rfl⟩ := len4 (Decidable.not_not.1 c2)
  have hi := hL (by simpa using c1)
  simp only [List.mem_cons, List.not_mem_nil, or_false, forall_eq_or_imp, forall_eq] at hi
  simp
  repeat' (refine Ok.ite (fun _ => ?_) (fun _ => ?_))
  all_goals first
   | (refine Ok.some ?_; intro h; simp at h; done)
   | (refine Ok.some fun _ => ⟨.inr ⟨⟨rfl, rfl⟩, .inr (.inr (.inr (.inl ⟨rfl, ⟨?_, ?_⟩, ⟨?_, ?_⟩, ⟨?_, ?_⟩, ⟨?_, ?_⟩⟩)))⟩, hi.1, hi.2.1, hi.2.2.1, hi.2.2.2, In0, In0⟩ <;> dsimp only <;> omega)
 by_cases w6 : w = [116, 111, 107, 101, 110]
 ·
  subst w6
  simp [f_script_act_B1, f_script_act_J2, f_script_act_J3, f_script_places_p0, bindO, idx, guardO, IntKind.wrap, IntKind.signed, IntKind.bits, mx0]
  repeat' (refine Ok.ite (fun _ => ?_) (fun _ => ?_))
  all_goals first
   | (refine Ok.some ?_; intro h; simp at h; done)
   | (refine Ok.some fun _ => ⟨.inr ⟨⟨rfl, rfl⟩, .inr (.inr (.inr (.inr ⟨rfl, rfl, rfl, rfl, rfl⟩)))⟩, In0, In0, In0, In0, In0, In0⟩)
 ·
  simp [f_script_act_B1, bindO, idx, IntKind.wrap, IntKind.signed, IntKind.bits, Ne.symm w1, Ne.symm w2, Ne.symm w3, Ne.symm w4, Ne.symm w5, Ne.symm w6]
  exact Ok.some (fun h => absurd h (by decide))
/-- An act's own words give it back. -/
theorem act_of {w : List UInt8} {ns : List Int} (hn : ∀ n ∈ ns, In n) (hl : ns.length ≤ 10) {r : GAct × Int}
  (h : loopK (f_script_act_B1 (⟨w⟩ :: ns.map fun n => ⟨itoa n⟩) (ns, true) [(⟨(⟨[102, 101, 101, 100]⟩ : GStr), 2, true⟩ : GScript_shape), (⟨(⟨[99, 108, 111, 115, 101]⟩ : GStr), 1, false⟩ : GScript_shape), (⟨(⟨[102, 105, 110, 105, 115, 104]⟩ : GStr), 0, false⟩ : GScript_shape), (⟨(⟨[109, 97, 107, 101]⟩ : GStr), 1, false⟩ : GScript_shape), (⟨(⟨[109, 111, 118, 101]⟩ : GStr), 4, false⟩ : GScript_shape), (⟨(⟨[116, 111, 107, 101, 110]⟩ : GStr), 0, false⟩ : GScript_shape)]) rounds 0 = some r) :
  f_script_act (⟨w⟩ :: ns.map fun n => ⟨itoa n⟩) = some r := by
 unfold f_script_act f_script_shapes
 refine Ok.eq (Ok.guard (by simp only [List.length_cons]; omega) ?_)
 have hd : (List.drop (Int.toNat 1) (List.take (List.length ((⟨w⟩ : GStr) :: ns.map fun n => ⟨itoa n⟩)) ((⟨w⟩ : GStr) :: ns.map fun n => ⟨itoa n⟩))) = ns.map fun n => ⟨itoa n⟩ := by rw [List.take_length]; rfl
 rw [hd]
 refine Ok.bind2 (numbers_ok (ws := ns.map fun n => ⟨itoa n⟩) (by rw [List.length_map]; omega) fun x hx => ?_) ?_
 ·
  obtain ⟨n, h1, rfl⟩ := List.mem_map.1 hx
  have := itoa_len (hn n h1)
  simp only; omega
 ·
  rintro p ⟨_, hp⟩
  rw [hp ns hn rfl]
  exact Ok.bind (Ok.some (Ok.of_eq h rfl))
set_option maxHeartbeats 8000000 in
theorem act_back {a : GAct} (h : AOK a) (hi : AIn a) : f_script_act ((wordsA a).map GStr.mk) = some (a, 0) := by
 obtain ⟨k, A, B, C, D, K, V⟩ := a
 obtain ⟨iA, iB, iC, iD, iK, iV⟩ := hi
 simp only at iA iB iC iD iK iV
 obtain ⟨n, hn⟩ := rounds7
 have fin : ∀ (w : List UInt8) (ns : List Int), (∀ n ∈ ns, In n) → ns.length ≤ 10 → _ := fun w ns h1 h2 => act_of (w := w) (ns := ns) (r := (⟨k, A, B, C, D, ⟨K, V⟩⟩, 0)) h1 h2
 rw [hn] at fin
 simp only [loop7] at fin
 rcases h with ⟨e, r1, r2, e3, e4⟩ | ⟨⟨e5, e6⟩, ⟨e, r1, e2, e3, e4⟩ | ⟨e, e1, e2, e3, e4⟩ | ⟨e, r1, e2, e3, e4⟩ | ⟨e, r1, r2, r3, r4⟩ | ⟨e, e1, e2, e3, e4⟩⟩
 ·
  simp only at e r1 r2 e3 e4
  subst e e3 e4
  refine fin [102, 101, 101, 100] [A, B, K, V] (by simp [iA, iB, iK, iV]) (by simp) (Ok.eq ?_)
  simp [f_script_act_B1, f_script_act_J2, f_script_act_J3, f_script_places_p0, bindO, idx, guardO, IntKind.wrap, IntKind.signed, IntKind.bits, mx2]
  obtain ⟨a1, a2⟩ := r1
  obtain ⟨a3, a4⟩ := r2
  repeat' (refine Ok.ite (fun _ => ?_) (fun _ => ?_))
  all_goals first
   | (exfalso; omega)
   | exact Ok.some rfl
 ·
  simp only at e r1 e2 e3 e4 e5 e6
  subst e e2 e3 e4 e5 e6
  refine fin [99, 108, 111, 115, 101] [A] (by simp [iA]) (by simp) (Ok.eq ?_)
  simp [f_script_act_B1, f_script_act_J2, f_script_act_J3, f_script_places_p0, bindO, idx, guardO, IntKind.wrap, IntKind.signed, IntKind.bits, mx1]
  obtain ⟨a1, a2⟩ := r1
  repeat' (refine Ok.ite (fun _ => ?_) (fun _ => ?_))
  all_goals first
   | (exfalso; omega)
   | exact Ok.some rfl
 ·
  simp only at e e1 e2 e3 e4 e5 e6
  subst e e1 e2 e3 e4 e5 e6
  refine fin [102, 105, 110, 105, 115, 104] [] (by simp) (by simp) ?_
  simp [f_script_act_B1, f_script_act_J2, f_script_act_J3, f_script_places_p0, bindO, idx, guardO, IntKind.wrap, IntKind.signed, IntKind.bits, mx0]
 ·
  simp only at e r1 e2 e3 e4 e5 e6
  subst e e2 e3 e4 e5 e6
  refine fin [109, 97, 107, 101] [A] (by simp [iA]) (by simp) (Ok.eq ?_)
  simp [f_script_act_B1, f_script_act_J2, f_script_act_J3, f_script_places_p0, bindO, idx, guardO, IntKind.wrap, IntKind.signed, IntKind.bits, mx1]
  obtain ⟨a1, a2⟩ := r1
  repeat' (refine Ok.ite (fun _ => ?_) (fun _ => ?_))
  all_goals first
   | (exfalso; omega)
   | exact Ok.some rfl
 ·
  simp only at e r1 r2 r3 r4 e5 e6
  subst e e5 e6
  refine fin [109, 111, 118, 101] [A, B, C, D] (by simp [iA, iB, iC, iD]) (by simp) (Ok.eq ?_)
  simp [f_script_act_B1, f_script_act_J2, f_script_act_J3, f_script_places_p0, bindO, idx, guardO, IntKind.wrap, IntKind.signed, IntKind.bits, mx4]
  obtain ⟨a1, a2⟩ := r1
  obtain ⟨a3, a4⟩ := r2
  obtain ⟨a5, a6⟩ := r3
  obtain ⟨a7, a8⟩ := r4
  repeat' (refine Ok.ite (fun _ => ?_) (fun _ => ?_))
  all_goals first
   | (exfalso; omega)
   | exact Ok.some rfl
 ·
  simp only at e e1 e2 e3 e4 e5 e6
  subst e e1 e2 e3 e4 e5 e6
  refine fin [116, 111, 107, 101, 110] [] (by simp) (by simp) ?_
  simp [f_script_act_B1, f_script_act_J2, f_script_act_J3, f_script_places_p0, bindO, idx, guardO, IntKind.wrap, IntKind.signed, IntKind.bits, mx0]
end Go.Proofs.YtkjinognbjmccaaDoor
